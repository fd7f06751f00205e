import Derived.Test.YtaogegpfapfchaaGreatDoorDeskM12
import Derived.Test.YtaogegpfapfchaaGreatDoorDeskM10
import Derived.Test.YtaogegpfapfchaaGreatDoorRows
import Derived.Test.YtaogegpfapfchaaGreatDoorDeskM01
import Derived.Deep.QuietTactic
import Derived.BigQuiet
import Derived.StillTailTactics
/- Several texts in one: XPlaces XDiffP XCheck XSameTable. -/
/- Plain: the places of one longest common subsequence. -/
namespace Go.Proofs.YtaogegpfapfchaaGreatDoor
set_option linter.unusedVariables false

/-- What is left of both, from two places on. -/
def pl (a b : List UInt8) (i k : Nat) : Nat := lcs (a.drop i) (b.drop k)
theorem pl_end_left (a b : List UInt8) (i k : Nat) (h : a.length ≤ i) : pl a b i k = 0 := by unfold pl; rw [List.drop_of_length_le h]; rfl
theorem pl_end_right (a b : List UInt8) (i k : Nat) (h : b.length ≤ k) : pl a b i k = 0 := by unfold pl; rw [List.drop_of_length_le h, lcs_nil_right]
theorem pl_step (a b : List UInt8) (i k : Nat) (hi : i < a.length) (hk : k < b.length) : pl a b i k = if a.getD i 0 = b.getD k 0 then pl a b (i + 1) (k + 1) + 1 else max (pl a b (i + 1) k) (pl a b i (k + 1)) := by
  unfold pl
  rw [drop_getD a i 0 hi, drop_getD b k 0 hk, lcs_cons]
theorem pl_le (a b : List UInt8) (i k : Nat) : pl a b i k ≤ a.length := by
  have := lcs_le_left (a.drop i) (b.drop k)
  rw [List.length_drop] at this
  unfold pl; omega
theorem pl_pos {a b : List UInt8} {i k : Nat} (h : 0 < pl a b i k) : i < a.length ∧ k < b.length := by
  refine ⟨?_, ?_⟩
  · rcases Nat.lt_or_ge i a.length with h1 | h1
    · exact h1
    · rw [pl_end_left a b i k h1] at h; omega
  · rcases Nat.lt_or_ge k b.length with h1 | h1
    · exact h1
    · rw [pl_end_right a b i k h1] at h; omega

/-- The walk through the table, so many steps at most. -/
def pw (a b : List UInt8) : Nat → Nat → Nat → List (Nat × Nat)
  | 0, _, _ => []
  | f + 1, i, k =>
    if pl a b i k = 0 then []
    else if a.getD i 0 = b.getD k 0 then (i, k) :: pw a b f (i + 1) (k + 1)
    else if pl a b i (k + 1) ≤ pl a b (i + 1) k then pw a b f (i + 1) k
    else pw a b f i (k + 1)
/-- The places that are told. -/
def placesOf (a b : List UInt8) : List (Nat × Nat) := pw a b (a.length + b.length) 0 0

structure Matches (a b : List UInt8) (i k : Nat) (R : List (Nat × Nat)) : Prop where
  len : R.length = pl a b i k
  mem : ∀ p ∈ R, i ≤ p.1 ∧ p.1 < a.length ∧ k ≤ p.2 ∧ p.2 < b.length ∧ a.getD p.1 0 = b.getD p.2 0
  rise : R.Pairwise fun p q => p.1 < q.1 ∧ p.2 < q.2
theorem pw_ok (a b : List UInt8) : ∀ f i k, a.length + b.length ≤ f + i + k → Matches a b i k (pw a b f i k)
  | 0, i, k, h => by
    have h0 : pl a b i k = 0 := by
      rcases Nat.lt_or_ge i a.length with h1 | h1
      · exact pl_end_right a b i k (by omega)
      · exact pl_end_left a b i k h1
    exact ⟨by rw [h0]; rfl, fun p hp => by simp [pw] at hp, by simp [pw]⟩
  | f + 1, i, k, h => by
    rw [pw]
    by_cases h0 : pl a b i k = 0
    · rw [if_pos h0]
      exact ⟨by rw [h0]; rfl, fun p hp => by simp at hp, List.Pairwise.nil⟩
    · rw [if_neg h0]
      obtain ⟨hi, hk⟩ := pl_pos (a := a) (b := b) (i := i) (k := k) (by omega)
      have hs := pl_step a b i k hi hk
      by_cases h1 : a.getD i 0 = b.getD k 0
      · rw [if_pos h1]
        rw [if_pos h1] at hs
        obtain ⟨g1, g2, g3⟩ := pw_ok a b f (i + 1) (k + 1) (by omega)
        refine ⟨by rw [List.length_cons, g1, hs], fun p hp => ?_, List.pairwise_cons.2 ⟨fun q hq => ?_, g3⟩⟩
        · rcases List.mem_cons.1 hp with rfl | hp
          · exact ⟨Nat.le_refl _, hi, Nat.le_refl _, hk, h1⟩
          · obtain ⟨e1, e2, e3, e4, e5⟩ := g2 p hp
            exact ⟨by omega, e2, by omega, e4, e5⟩
        · obtain ⟨e1, e2, e3, e4, e5⟩ := g2 q hq
          exact ⟨by show i < q.1; omega, by show k < q.2; omega⟩
      · rw [if_neg h1]
        rw [if_neg h1] at hs
        by_cases h2 : pl a b i (k + 1) ≤ pl a b (i + 1) k
        · rw [if_pos h2]
          obtain ⟨g1, g2, g3⟩ := pw_ok a b f (i + 1) k (by omega)
          refine ⟨by rw [g1]; omega, fun p hp => ?_, g3⟩
          obtain ⟨e1, e2, e3, e4, e5⟩ := g2 p hp
          exact ⟨by omega, e2, e3, e4, e5⟩
        · rw [if_neg h2]
          obtain ⟨g1, g2, g3⟩ := pw_ok a b f i (k + 1) (by omega)
          refine ⟨by rw [g1]; omega, fun p hp => ?_, g3⟩
          obtain ⟨e1, e2, e3, e4, e5⟩ := g2 p hp
          exact ⟨e1, e2, by omega, e4, e5⟩
theorem places_ok (a b : List UInt8) : Matches a b 0 0 (placesOf a b) := pw_ok a b _ 0 0 (by omega)
theorem places_length (a b : List UInt8) : (placesOf a b).length = lcs a b := (places_ok a b).len

/-- Rising places of a list: a subsequence. -/
theorem rising_sub (a : List UInt8) : ∀ (R : List Nat) (i : Nat), (∀ p ∈ R, i ≤ p ∧ p < a.length) → R.Pairwise (· < ·) → (R.map fun p => a.getD p 0).Sublist (a.drop i)
  | [], i, _, _ => List.nil_sublist _
  | p :: R, i, h, hr => by
    obtain ⟨h1, h2⟩ := List.pairwise_cons.1 hr
    obtain ⟨hp1, hp2⟩ := h p (by simp)
    have ih := rising_sub a R (p + 1) (fun q hq => ⟨h1 q hq, (h q (by simp [hq])).2⟩) h2
    have e : (a.drop p).Sublist (a.drop i) := by
      have : a.drop p = (a.drop i).drop (p - i) := by rw [List.drop_drop]; congr 1; omega
      rw [this]; exact List.drop_sublist _ _
    refine List.Sublist.trans ?_ e
    rw [drop_getD a p 0 hp2, List.map_cons]
    exact ih.cons_cons _
theorem places_sub (a b : List UInt8) : ((placesOf a b).map fun p => a.getD p.1 0).Sublist a ∧ ((placesOf a b).map fun p => b.getD p.2 0).Sublist b ∧ ((placesOf a b).map fun p => a.getD p.1 0) = (placesOf a b).map fun p => b.getD p.2 0 := by
  obtain ⟨h1, h2, h3⟩ := places_ok a b
  refine ⟨?_, ?_, List.map_congr_left fun p hp => (h2 p hp).2.2.2.2⟩
  · have := rising_sub a ((placesOf a b).map Prod.fst) 0 (fun p hp => by obtain ⟨q, hq, rfl⟩ := List.mem_map.1 hp; exact ⟨Nat.zero_le _, (h2 q hq).2.1⟩) (by rw [List.pairwise_map]; exact h3.imp fun h => h.1)
    rw [List.map_map] at this
    exact this
  · have := rising_sub b ((placesOf a b).map Prod.snd) 0 (fun p hp => by obtain ⟨q, hq, rfl⟩ := List.mem_map.1 hp; exact ⟨Nat.zero_le _, (h2 q hq).2.2.2.1⟩) (by rw [List.pairwise_map]; exact h3.imp fun h => h.2)
    rw [List.map_map] at this
    exact this

/-- The greedy test. -/
theorem sub_step (x y : UInt8) (a b : List UInt8) : (x :: a).Sublist (y :: b) ↔ if x = y then a.Sublist b else (x :: a).Sublist b := by
  by_cases e : x = y
  · rw [if_pos e]
    subst e
    exact ⟨fun h => (sub_of_cons h).1, fun h => h.cons_cons x⟩
  · rw [if_neg e]
    exact ⟨fun h => (sub_of_cons h).2 e, fun h => h.cons y⟩

end Go.Proofs.YtaogegpfapfchaaGreatDoor

/- Plain: the script that a longest common subsequence leaves. -/
namespace Go.Proofs.YtaogegpfapfchaaGreatDoor
set_option linter.unusedVariables false

/-- What lies between the pairs, as edits. -/
def diffL (t : List UInt8) : Nat → Nat → List (Nat × Nat) → List Ed
  | _, _, [] => []
  | i, k, p :: R => (if i < p.1 ∨ k < p.2 then [((i : Int), ((p.1 : Int) - i), e8 ((t.take p.2).drop k))] else []) ++ diffL t (p.1 + 1) (p.2 + 1) R
/-- Where the walk stands after pairs. -/
def lastI (i : Nat) (R : List (Nat × Nat)) : Nat := match R.getLast? with | none => i | some p => p.1 + 1
def lastK (k : Nat) (R : List (Nat × Nat)) : Nat := match R.getLast? with | none => k | some p => p.2 + 1
theorem diffL_snoc (t : List UInt8) : ∀ (R : List (Nat × Nat)) (i k : Nat) (p : Nat × Nat), diffL t i k (R ++ [p]) = diffL t i k R ++ (if lastI i R < p.1 ∨ lastK k R < p.2 then [((lastI i R : Int), ((p.1 : Int) - lastI i R), e8 ((t.take p.2).drop (lastK k R)))] else [])
  | [], i, k, p => by
    rw [List.nil_append, diffL, diffL, diffL, List.append_nil, List.nil_append]
    rfl
  | q :: R, i, k, p => by
    rw [List.cons_append, diffL, diffL_snoc t R, diffL, List.append_assoc]
    have e1 : lastI (q.1 + 1) R = lastI i (q :: R) := by
      unfold lastI
      cases R with
      | nil => rfl
      | cons r R => rw [List.getLast?_cons_cons]; cases h : (r :: R).getLast? with
        | none => simp at h
        | some p => rfl
    have e2 : lastK (q.2 + 1) R = lastK k (q :: R) := by
      unfold lastK
      cases R with
      | nil => rfl
      | cons r R => rw [List.getLast?_cons_cons]; cases h : (r :: R).getLast? with
        | none => simp at h
        | some p => rfl
    rw [e1, e2]
theorem lastI_snoc (i : Nat) (R : List (Nat × Nat)) (p : Nat × Nat) : lastI i (R ++ [p]) = p.1 + 1 := by simp [lastI]
theorem lastK_snoc (k : Nat) (R : List (Nat × Nat)) (p : Nat × Nat) : lastK k (R ++ [p]) = p.2 + 1 := by simp [lastK]

/-- Rising pairs of like bytes. -/
structure Rise (s t : List UInt8) (i k : Nat) (R : List (Nat × Nat)) : Prop where
  mem : ∀ p ∈ R, i ≤ p.1 ∧ p.1 < s.length ∧ k ≤ p.2 ∧ p.2 < t.length ∧ s.getD p.1 0 = t.getD p.2 0
  rise : R.Pairwise fun p q => p.1 < q.1 ∧ p.2 < q.2
variable {s t : List UInt8}
theorem rise_all (s t : List UInt8) : Rise s t 0 0 (placesOf s t) := ⟨(places_ok s t).mem, (places_ok s t).rise⟩
theorem Rise.cons {i k : Nat} {p : Nat × Nat} {R : List (Nat × Nat)} (h : Rise s t i k (p :: R)) : Rise s t (p.1 + 1) (p.2 + 1) R := by
  obtain ⟨h1, h2⟩ := List.pairwise_cons.1 h.rise
  refine ⟨fun q hq => ?_, h2⟩
  obtain ⟨a, b, c, d, e⟩ := h.mem q (by simp [hq])
  have := h1 q hq
  exact ⟨by omega, b, by omega, d, e⟩
theorem Rise.len : ∀ {R : List (Nat × Nat)} {i k : Nat}, Rise s t i k R → i ≤ s.length → k ≤ t.length → i + R.length ≤ s.length ∧ k + R.length ≤ t.length
  | [], i, k, _, hi, hk => ⟨by simpa using hi, by simpa using hk⟩
  | p :: R, i, k, h, hi, hk => by
    obtain ⟨a, b, c, d, e⟩ := h.mem p (by simp)
    have := h.cons.len (by omega) (by omega)
    rw [List.length_cons]
    omega

theorem take_drop_cut (l : List UInt8) (a b c : Nat) (h1 : a ≤ b) (h2 : b ≤ c) : (l.take c).drop a = (l.take b).drop a ++ (l.take c).drop b := by
  have e : l.take c = l.take b ++ (l.take c).drop b := by
    conv => lhs; rw [← List.take_append_drop b (l.take c)]
    rw [List.take_take, Nat.min_eq_left h2]
  by_cases hb : b ≤ l.length
  · conv => lhs; rw [e]
    rw [List.drop_append_of_le_length (by rw [List.length_take]; omega)]
  · rw [List.take_of_length_le (l := l) (i := c) (by omega), List.take_of_length_le (l := l) (i := b) (by omega), List.drop_of_length_le (l := l) (i := b) (by omega), List.append_nil]
theorem drop_cut (l : List UInt8) (a b : Nat) (h1 : a ≤ b) : l.drop a = (l.take b).drop a ++ l.drop b := by
  have := take_drop_cut l a b (max b l.length) h1 (by omega)
  rw [List.take_of_length_le (l := l) (i := max b l.length) (by omega)] at this
  exact this

/-- The edits make the one of the other. -/
theorem diff_app : ∀ (R : List (Nat × Nat)) (i k a : Nat), Rise s t i k R → a ≤ i → i ≤ s.length → k ≤ t.length → app s a (diffL t i k (R ++ [(s.length, t.length)])) = (s.take i).drop a ++ t.drop k
  | [], i, k, a, _, ha, hi, hk => by
    rw [List.nil_append, diffL, diffL, List.append_nil]
    by_cases h : i < s.length ∨ k < t.length
    · rw [if_pos h, app, app, e8_list]
      simp only [Int.toNat_natCast]
      rw [show ((i : Int) + ((s.length : Int) - i)).toNat = s.length from by omega, List.drop_of_length_le (Nat.le_refl _), List.append_nil, List.take_of_length_le (l := t) (Nat.le_refl _)]
    · rw [if_neg h, app, List.take_of_length_le (by omega), List.drop_of_length_le (l := t) (by omega), List.append_nil]
  | p :: R, i, k, a, h, ha, hi, hk => by
    obtain ⟨m1, m2, m3, m4, m5⟩ := h.mem p (by simp)
    rw [List.cons_append, diffL]
    have hs : (s.take (p.1 + 1)).drop p.1 = [s.getD p.1 0] := by rw [take_succ_getD s p.1 0 m2, List.drop_append_of_le_length (by rw [List.length_take]; omega), List.drop_of_length_le (by rw [List.length_take]; omega)]; rfl
    have ht : t.drop p.2 = t.getD p.2 0 :: t.drop (p.2 + 1) := drop_getD t p.2 0 m4
    have hk' : t.drop k = (t.take p.2).drop k ++ t.drop p.2 := drop_cut t k p.2 m3
    by_cases hc : i < p.1 ∨ k < p.2
    · rw [if_pos hc, List.cons_append, List.nil_append, app, e8_list]
      simp only [Int.toNat_natCast]
      rw [show ((i : Int) + ((p.1 : Int) - i)).toNat = p.1 from by omega, diff_app R (p.1 + 1) (p.2 + 1) p.1 h.cons (by omega) (by omega) (by omega), hs, m5, hk', ht]
      simp
    · obtain rfl : i = p.1 := by omega
      obtain rfl : k = p.2 := by omega
      rw [if_neg hc, List.nil_append, diff_app R (p.1 + 1) (p.2 + 1) a h.cons (by omega) (by omega) (by omega), take_drop_cut s a p.1 (p.1 + 1) ha (by omega), hs, m5, ht]
      simp

/-- How much a script takes and puts. -/
def costE : List Ed → Int
  | [] => 0
  | x :: l => x.2.1 + x.2.2.size + costE l
theorem costE_append : ∀ l m : List Ed, costE (l ++ m) = costE l + costE m
  | [], m => by simp [costE]
  | x :: l, m => by rw [List.cons_append, costE, costE, costE_append]; omega
theorem diff_cost : ∀ (R : List (Nat × Nat)) (i k : Nat), Rise s t i k R → i ≤ s.length → k ≤ t.length → costE (diffL t i k (R ++ [(s.length, t.length)])) = (s.length : Int) - i + (t.length - k) - 2 * R.length
  | [], i, k, _, hi, hk => by
    rw [List.nil_append, diffL, diffL, List.append_nil]
    by_cases h : i < s.length ∨ k < t.length
    · rw [if_pos h, costE, costE, e8_size, List.length_drop, List.length_take, Nat.min_self]
      simp only [List.length_nil]
      omega
    · rw [if_neg h, costE]
      simp only [List.length_nil]
      omega
  | p :: R, i, k, h, hi, hk => by
    obtain ⟨m1, m2, m3, m4, m5⟩ := h.mem p (by simp)
    rw [List.cons_append, diffL, costE_append, diff_cost R (p.1 + 1) (p.2 + 1) h.cons (by omega) (by omega), List.length_cons]
    by_cases hc : i < p.1 ∨ k < p.2
    · rw [if_pos hc, costE, costE, e8_size, List.length_drop, List.length_take]
      simp only
      omega
    · rw [if_neg hc, costE]; omega
theorem diff_ok : ∀ (R : List (Nat × Nat)) (i k : Nat) (f : Bool) (e : Int), Rise s t i k R → i ≤ s.length → k ≤ t.length → (f = false → e < i) → s.length - i + (t.length - k) ≤ 40 + 2 * R.length → OkE s.length f e (diffL t i k (R ++ [(s.length, t.length)]))
  | [], i, k, f, e, _, hi, hk, hf, hc => by
    rw [List.nil_append, diffL, diffL, List.append_nil]
    by_cases h : i < s.length ∨ k < t.length
    · rw [if_pos h]
      have hl : (e8 ((t.take t.length).drop k)).size = t.length - k := by rw [e8_size, List.length_drop, List.length_take, Nat.min_self]
      rw [List.length_nil] at hc
      exact ⟨by simp only; omega, by simp only; omega, by simp only; omega, by simp only [hl]; omega, by simp only [hl]; omega, by simp only; omega, trivial⟩
    · rw [if_neg h]; trivial
  | p :: R, i, k, f, e, h, hi, hk, hf, hc => by
    obtain ⟨m1, m2, m3, m4, m5⟩ := h.mem p (by simp)
    have hlen := h.cons.len (by omega) (by omega)
    rw [List.length_cons] at hc
    rw [List.cons_append, diffL]
    have hl : (e8 ((t.take p.2).drop k)).size = p.2 - k := by rw [e8_size, List.length_drop, List.length_take]; omega
    by_cases hq : i < p.1 ∨ k < p.2
    · rw [if_pos hq, List.cons_append, List.nil_append]
      exact ⟨by simp only; omega, by simp only; omega, by simp only; omega, by simp only [hl]; omega, by simp only [hl]; omega, by simp only; omega,
        diff_ok R (p.1 + 1) (p.2 + 1) false _ h.cons (by omega) (by omega) (fun _ => by simp only; omega) (by omega)⟩
    · rw [if_neg hq, List.nil_append]
      exact diff_ok R (p.1 + 1) (p.2 + 1) f e h.cons (by omega) (by omega) (fun hh => by have := hf hh; omega) (by omega)
theorem cost_len {n : Int} : ∀ {l : List Ed} {f : Bool} {e : Int}, OkE n f e l → (l.length : Int) ≤ costE l
  | [], f, e, _ => by simp [costE]
  | x :: l, f, e, ⟨h1, h2, h3, h4, h5, h6, h7⟩ => by
    have := cost_len h7
    rw [costE, List.length_cons]
    omega

/-- No script that makes the one of the other takes and puts less. -/
theorem app_lcs : ∀ {l : List Ed} {f : Bool} {e : Nat}, OkE s.length f e l → (f = true → e = 0) → e ≤ s.length → (s.length : Int) - e ≤ lcs (s.drop e) (app s e l) + (costE l - gain l) / 2
  | [], f, e, _, _, he => by
    have := (lcs_full (s.drop e) (s.drop e)).2 (List.Sublist.refl _)
    rw [app, costE, gain, this, List.length_drop]
    omega
  | x :: l, f, e, ⟨h1, h2, h3, h4, h5, h6, h7⟩, hf, he => by
    obtain ⟨i, hi⟩ : ∃ i : Nat, x.1 = i := ⟨x.1.toNat, by omega⟩
    obtain ⟨q, hq⟩ : ∃ q : Nat, x.1 + x.2.1 = q := ⟨(x.1 + x.2.1).toNat, by omega⟩
    have hei : e ≤ i := by
      cases f with
      | true => rw [hf rfl]; omega
      | false => have := h6 rfl; omega
    have hiq : i ≤ q := by omega
    rw [hq] at h7
    have ih := app_lcs h7 (fun h => by cases h) (by omega)
    rw [app, hq, hi, Int.toNat_natCast, Int.toNat_natCast, costE, gain]
    have e1 : s.drop e = (s.take i).drop e ++ ((s.take q).drop i ++ s.drop q) := by
      rw [← drop_cut s i q hiq, ← drop_cut s e i hei]
    have a1 := lcs_append ((s.take i).drop e) ((s.take i).drop e) ((s.take q).drop i ++ s.drop q) (x.2.2.data.toList ++ app s q l)
    have a2 := lcs_append ((s.take q).drop i) x.2.2.data.toList (s.drop q) (app s q l)
    have a3 := (lcs_full ((s.take i).drop e) ((s.take i).drop e)).2 (List.Sublist.refl _)
    rw [List.length_drop, List.length_take] at a3
    rw [e1, List.append_assoc]
    omega
end Go.Proofs.YtaogegpfapfchaaGreatDoor

/- The walks of word.Check and same.Check: texts of at most 200 bytes are let in. -/
namespace Go.Proofs.YtaogegpfapfchaaGreatDoor
open Go.RowKit
set_option linter.unusedVariables false

set_option maxHeartbeats 400000 in
theorem wordCheck_ok (s : ByteArray) (h : s.size ≤ 200) (w : World) :
    Calls Tryz.prog 67 #[.string s] w fun e w' => e = .returned (.int .i64 0) ∧ w = w' := by
  have hd : decide ((200 : Int) < (s.size : Int)) = false := by simp; omega
  go_enter Tryz.func67, Tryz.ntmps67
  go_wp2
  go_ret
  exact ⟨rfl, rfl⟩

set_option maxHeartbeats 400000 in
theorem wordCheck_no (s : ByteArray) (h : 200 < s.size) (w : World) :
    Calls Tryz.prog 67 #[.string s] w fun e w' => e = .returned (.int .i64 2) ∧ w = w' := by
  have hd : decide ((200 : Int) < (s.size : Int)) = true := by simp; omega
  go_enter Tryz.func67, Tryz.ntmps67
  go_wp2
  go_ret
  exact ⟨rfl, rfl⟩

set_option maxHeartbeats 400000 in
theorem sameCheck_ok (a b : ByteArray) (ha : a.size ≤ 200) (hb : b.size ≤ 200) (w : World) :
    Calls Tryz.prog 71 #[.string a, .string b] w fun e w' => e = .returned (.int .i64 0) ∧ w = w' := by
  go_enter Tryz.func71, Tryz.ntmps71
  go_wp2_with fail
  refine (wordCheck_ok a ha _).mono ?_
  rintro e w1 ⟨rfl, rfl⟩
  go_wp2_with fail
  refine (wordCheck_ok b hb _).mono ?_
  rintro e w1 ⟨rfl, rfl⟩
  go_wp2
  go_ret
  exact ⟨rfl, rfl⟩

set_option maxHeartbeats 400000 in
theorem sameCheck_no (a b : ByteArray) (h : 200 < a.size ∨ 200 < b.size) (w : World) :
    Calls Tryz.prog 71 #[.string a, .string b] w fun e w' => e = .returned (.int .i64 2) ∧ w = w' := by
  by_cases ha : a.size ≤ 200
  · go_enter Tryz.func71, Tryz.ntmps71
    go_wp2_with fail
    refine (wordCheck_ok a ha _).mono ?_
    rintro e w1 ⟨rfl, rfl⟩
    go_wp2_with fail
    refine (wordCheck_no b (by omega) _).mono ?_
    rintro e w1 ⟨rfl, rfl⟩
    go_wp2
    go_ret
    exact ⟨rfl, rfl⟩
  · go_enter Tryz.func71, Tryz.ntmps71
    go_wp2_with fail
    refine (wordCheck_no a (by omega) _).mono ?_
    rintro e w1 ⟨rfl, rfl⟩
    go_wp2
    go_ret
    exact ⟨rfl, rfl⟩

end Go.Proofs.YtaogegpfapfchaaGreatDoor

/- The walk of same.table: the table of how much what is left of both has in common. -/
namespace Go.Proofs.YtaogegpfapfchaaGreatDoor
open Go.RowKit
set_option linter.unusedVariables false

/-- Rows of whole numbers in blocks of their own. -/
structure GridAt (w : World) (g n m : Nat) (f : Nat → Nat → Nat) : Prop where
  lt : g + 1 + n < w.heap.size
  row : ∀ i, i ≤ n → w.cell? ⟨g, i, none⟩ = some (.slice (some ⟨g + 1 + i, 0, none⟩) (m + 1) (m + 1))
  cell : ∀ i k, i ≤ n → k ≤ m → w.cell? ⟨g + 1 + i, k, none⟩ = some (.int .i64 (f i k : Nat))
  free : ∀ i k, i ≤ n → k ≤ m → w.frozen? ⟨g + 1 + i, k, none⟩ = false
theorem GridAt.below {w w' : World} {g n m B : Nat} {f : Nat → Nat → Nat} (h : GridAt w g n m f) (hb : Below B w w') (hB : g + 1 + n < B) : GridAt w' g n m f :=
  ⟨Nat.lt_of_lt_of_le h.lt hb.size, fun i hi => (hb.cell (p := ⟨g, i, none⟩) (by show g < B; omega)).trans (h.row i hi), fun i k hi hk => (hb.cell (p := ⟨g + 1 + i, k, none⟩) (by show g + 1 + i < B; omega)).trans (h.cell i k hi hk),
    fun i k hi hk => (hb.frozen (p := ⟨g + 1 + i, k, none⟩) (by show g + 1 + i < B; omega)).trans (h.free i k hi hk)⟩
theorem GridAt.drewN {w : World} {g n m : Nat} {f : Nat → Nat → Nat} (h : GridAt w g n m f) (j : Nat) : GridAt (w.drewN j) g n m f := ⟨h.lt, h.row, h.cell, h.free⟩
theorem GridAt.congr {w : World} {g n m : Nat} {f f' : Nat → Nat → Nat} (h : GridAt w g n m f) (he : ∀ i k, i ≤ n → k ≤ m → f i k = f' i k) : GridAt w g n m f' :=
  ⟨h.lt, h.row, fun i k hi hk => by rw [h.cell i k hi hk, he i k hi hk], h.free⟩
theorem GridAt.set {w : World} {g n m : Nat} {f : Nat → Nat → Nat} (h : GridAt w g n m f) (i k x : Nat) (hi : i ≤ n) (hk : k ≤ m) :
    GridAt (w.setCell ⟨g + 1 + i, k, none⟩ (.int .i64 (x : Nat))) g n m (fun r c => if r = i ∧ c = k then x else f r c) := by
  refine ⟨by rw [size_setCell]; exact h.lt, fun r hr => ?_, fun r c hr hc => ?_, fun r c hr hc => (World.frozen?_setCell _ _ _ _).trans (h.free r c hr hc)⟩
  · rw [World.cell?_setCell_other _ _ _ _ (by intro e; injection e with e _; omega)]
    exact h.row r hr
  · by_cases e : r = i ∧ c = k
    · obtain ⟨rfl, rfl⟩ := e
      rw [World.cell?_setCell_same _ _ _ (h.cell r c hr hc), if_pos ⟨rfl, rfl⟩]
    · rw [World.cell?_setCell_other _ _ _ _ (by intro e'; injection e' with e1 e2; exact e ⟨by omega, e2.symm⟩), if_neg e]
      exact h.cell r c hr hc

theorem infoIntT : (Tryz.prog.info? 3).map (fun i => (i.zero, i.size, i.bytes)) = some (some (.int .i64 0), 1, 8) := by kernel_rfl
theorem infoRowT : (Tryz.prog.info? 76).map (fun i => (i.zero, i.size, i.bytes)) = some (some (.slice none 0 0), 1, 24) := by kernel_rfl
theorem make_rows {P : Program} (t e : TypeId) (ht : P.underlying t = some (.slice e)) (hi : (P.info? e).map (fun i => (i.zero, i.size, i.bytes)) = some (some (.slice none 0 0), 1, 24))
    (n : Nat) (x : Int) (hx : x = n) (h : n ≤ 8796093022208) (w : World) :
    (Instr.makeSlice t (.int .i64 x) (.int .i64 x)).run P w = .ok (.slice (some ⟨w.heap.size, 0, none⟩) n n) (w.alloc (.cells (List.replicate n (Value.slice none 0 0)).toArray e)) := by
  obtain ⟨i0, hi, hz0, hz1, hz2⟩ := info_parts hi
  have := run_make_rowN t e i0 (.slice none 0 0) ht hi hz0 .i64 .i64 n n (Nat.le_refl _) (by rw [hz2]; omega) (by omega) w
  rw [hz1, Nat.mul_one] at this
  subst hx
  have e1 : madeCells (Value.slice none 0 0).cells n = (List.replicate n (Value.slice none 0 0)).toArray := Array.toList_inj.1 (toList_madeCells_one (.slice none 0 0) n)
  rw [e1] at this
  exact this

set_option maxRecDepth 100000 in
set_option maxHeartbeats 4000000 in
theorem table_ok (a b : ByteArray) (ha : a.size ≤ 200) (hb : b.size ≤ 200) (w : World) :
    Calls Tryz.prog 121 #[.string a, .string b] w fun e w' => e = .returned (.slice (some ⟨w.heap.size, 0, none⟩) (a.size + 1) (a.size + 1)) ∧
      GridAt w' w.heap.size a.size b.size (pl a.data.toList b.data.toList) ∧ Below w.heap.size w w' := by
  have hmk1 := fun w : World => make_rows (P := Tryz.prog) 159 76 Tryz.underlying159 infoRowT (a.size + 1) ((a.size : Int) + 1) (by omega) (by omega) w
  obtain ⟨Z, hZ⟩ : ∃ Z, Z = List.replicate (a.size + 1) (Value.slice none 0 0) := ⟨_, rfl⟩
  rw [← hZ] at hmk1
  have HZ := Lib.hid hZ
  clear hZ
  have hmk2 := fun w : World => make_ints (P := Tryz.prog) 76 3 Tryz.underlying76 infoIntT (b.size + 1) ((b.size : Int) + 1) (by omega) (by omega) w
  go_enter Tryz.func121, Tryz.ntmps121
  go_wp2
  have hB := Blk.new w 76 Z.toArray
  have hbw := (Below.refl w.heap.size w).alloc (Nat.le_refl _) (.cells Z.toArray 76)
  have hsz : (w.alloc (.cells Z.toArray 76)).heap.size = w.heap.size + 1 := by simp
  generalize w.alloc (.cells Z.toArray 76) = W at *
  generalize hg : w.heap.size = g at *
  have Hg := Lib.hid hg
  have Hsz := Lib.hid hsz
  clear hmk1 hg hsz
  go_loopw [6, 15] (fun _ iv wr => ∃ (r : Nat) (ρ : List Value), r ≤ a.size + 1 ∧ iv = .int .i64 r ∧ Hid (wr.heap.size = g + 1 + r) ∧ Hid (ρ.length = a.size + 1) ∧ Blk wr g 76 ρ.toArray ∧
      Hid (∀ i, i < r → ρ[i]? = some (.slice (some ⟨g + 1 + i, 0, none⟩) (b.size + 1) (b.size + 1)) ∧ IntsAt wr (g + 1 + i) (List.replicate (b.size + 1) 0)) ∧ Below g w wr) (fun _ iv _ => a.size + 1 - (intOf iv).toNat)
  case atStart => exact ⟨0, Z, Nat.zero_le _, rfl, Hsz, Lib.hid (by rw [HZ.out, List.length_replicate]), hB, Lib.hid (fun i hi => by omega), hbw⟩
  case round =>
    clear hB hbw
    obtain ⟨r, ρ, hr, rfl, Hs, Hl, hB, Hrow, hbr⟩ := hrel
    by_cases hlt : r < a.size + 1
    · have hc : wr.cell? ⟨g, r, none⟩ = some (ρ.getD r undef) := by rw [hB.cell r, List.getElem?_toArray, getElem?_of_getD ρ undef r (by rw [Hl.out]; exact hlt)]
      have hf := hB.frozen r
      have hgl := hB.lt
      generalize ρ.getD r undef = u0 at *
      have hv : wr.heap.size = g + 1 + r := Hs.out
      have Hv := Lib.hid hv
      obtain ⟨ib, is_, ia⟩ := ints_made (wr.setCell ⟨g, r, none⟩ (.slice (some ⟨wr.heap.size, 0, none⟩) (b.size + 1) (b.size + 1))) (b.size + 1) 3
      have Is := Lib.hid is_
      have Ia := Lib.hid ia
      clear hv is_ ia
      go_wp2
      go_roundw
      case rel =>
        refine ⟨r + 1, ρ.set r (.slice (some ⟨g + 1 + r, 0, none⟩) (b.size + 1) (b.size + 1)), by omega, by go_num, Lib.hid ?_, Lib.hid (by rw [List.length_set]; exact Hl.out), ?_, Lib.hid fun i hi => ?_, ?_⟩
        · have := Is.out
          rw [size_setCell, Hv.out] at this
          rw [Hv.out]; omega
        · have h1 := hB.set_ r (.slice (some ⟨wr.heap.size, 0, none⟩) (b.size + 1) (b.size + 1))
          rw [List.setIfInBounds_toArray] at h1
          have h2 := h1.below ib h1.lt
          rw [Hv.out] at h2 ⊢
          exact h2
        · rw [List.getElem?_set]
          by_cases e : r = i
          · subst e
            rw [if_pos rfl, if_pos (by rw [Hl.out]; exact hlt)]
            have := Ia.out
            rw [size_setCell, Hv.out] at this
            rw [Hv.out]
            exact ⟨rfl, this⟩
          · rw [if_neg e]
            obtain ⟨h1, h2⟩ := Hrow.out i (by omega)
            refine ⟨h1, ?_⟩
            have h3 := h2.far (p := ⟨g, r, none⟩) (by show g ≠ _; omega) (.slice (some ⟨wr.heap.size, 0, none⟩) (b.size + 1) (b.size + 1))
            exact h3.below ib (by rw [size_setCell, Hv.out]; omega)
        · exact (hbr.setCell (Nat.le_refl _) _).trans (ib.mono (by rw [size_setCell]; omega))
      case measure => simp [intOf]; omega
    · obtain rfl : r = a.size + 1 := by omega
      have hgrid : GridAt wr g a.size b.size (fun i k => if a.size ≤ i then pl a.data.toList b.data.toList i k else 0) := by
        refine ⟨by rw [Hs.out]; omega, fun i hi => ?_, fun i k hi hk => ?_, fun i k hi hk => ?_⟩
        · rw [hB.cell i, List.getElem?_toArray]; exact (Hrow.out i (by omega)).1
        · have h2 := ((Hrow.out i (by omega)).2.2 k (by rw [List.length_replicate]; omega)).1
          rw [h2, getD_some _ _ _ (by rw [List.length_replicate]; omega), List.getElem_replicate]
          by_cases e : a.size ≤ i
          · rw [if_pos e, pl_end_left _ _ _ _ e]; rfl
          · rw [if_neg e]; rfl
        · exact ((Hrow.out i (by omega)).2.2 k (by rw [List.length_replicate]; omega)).2
      clear hB Hrow Hl Hs hmk2 HZ Hsz
      go_wp2
      go_loopw [7, 8] (fun iv _ wr => ∃ q : Nat, q ≤ a.size ∧ iv = .int .i64 ((q : Int) - 1) ∧ GridAt wr g a.size b.size (fun i k => if q ≤ i then pl a.data.toList b.data.toList i k else 0) ∧ Below g w wr) (fun iv _ _ => (intOf iv + 1).toNat)
      case atStart => exact ⟨a.size, Nat.le_refl _, rfl, hgrid, hbr⟩
      case round =>
        clear hgrid hbr
        obtain ⟨q, hq, rfl, hgrid, hbr⟩ := hrel
        rcases Nat.eq_zero_or_pos q with hq0 | hq0
        · subst hq0
          go_wp2
          go_ret
          exact ⟨by rw [Hg.out]; rfl, by rw [Hg.out]; exact hgrid.congr fun i k _ _ => if_pos (Nat.zero_le _), by rw [Hg.out]; exact hbr⟩
        · obtain ⟨q', rfl⟩ : ∃ q', q = q' + 1 := ⟨q - 1, by omega⟩
          have e1 : (((q' + 1 : Nat) : Int)) - 1 = (q' : Int) := by omega
          rw [e1]
          clear e1 hq0
          go_wp2
          go_loopw [8] (fun kv wr => ∃ c : Nat, c ≤ b.size ∧ kv = .int .i64 ((c : Int) - 1) ∧ GridAt wr g a.size b.size (fun i k => if q' + 1 ≤ i ∨ (i = q' ∧ c ≤ k) then pl a.data.toList b.data.toList i k else 0) ∧ Below g w wr) (fun kv _ => (intOf kv + 1).toNat)
          case atStart =>
            refine ⟨b.size, Nat.le_refl _, rfl, hgrid.congr fun i k hi hk => ?_, hbr⟩
            by_cases h1 : q' + 1 ≤ i
            · rw [if_pos h1, if_pos (.inl h1)]
            · rw [if_neg h1]
              by_cases h2 : i = q' ∧ b.size ≤ k
              · rw [if_pos (.inr h2), pl_end_right _ _ _ _ h2.2]
              · rw [if_neg (by rintro (h | h); exact h1 h; exact h2 h)]
          case round =>
            clear hgrid hbr
            obtain ⟨c, hc, rfl, hgrid, hbr⟩ := hrel
            rcases Nat.eq_zero_or_pos c with hc0 | hc0
            · subst hc0
              go_wp2
              go_roundw
              case rel =>
                refine ⟨q', by omega, by go_num, hgrid.congr fun i k hi hk => ?_, hbr⟩
                by_cases h1 : q' ≤ i
                · rw [if_pos h1, if_pos (by omega)]
                · rw [if_neg h1, if_neg (by omega)]
              case measure => simp [intOf] <;> omega
            · obtain ⟨c', rfl⟩ : ∃ c', c = c' + 1 := ⟨c - 1, by omega⟩
              have e1 : (((c' + 1 : Nat) : Int)) - 1 = (c' : Int) := by omega
              rw [e1]
              clear e1 hc0
              have hqa : q' < a.size := by omega
              have hcb : c' < b.size := by omega
              have hst := pl_step a.data.toList b.data.toList q' c' hqa hcb
              rw [getD_bytes a q' hqa, getD_bytes b c' hcb] at hst
              have hne : ∀ h : ¬ a[q'] = b[c'], ((a[q'].toNat : Int) == (b[c'].toNat : Int)) = false := fun h => by
                rw [beq_eq_false_iff_ne]; intro h2; exact h (UInt8.toNat_inj.1 (by omega))
              have heq' : ∀ h : a[q'] = b[c'], ((a[q'].toNat : Int) == (b[c'].toNat : Int)) = true := fun h => by rw [h]; simp
              have Hst := Lib.hid hst
              have Hne := Lib.hid hne
              have Heq' := Lib.hid heq'
              clear hst hne heq'
              obtain ⟨z, hz⟩ : ∃ z, ((a[q'].toNat : Int) == (b[c'].toNat : Int)) = z := ⟨_, rfl⟩
              go_wp2
              go_quiet (fail)
              generalize hW : World.drewN _ _ = W
              have hg2 : GridAt W g a.size b.size (fun i k => if q' + 1 ≤ i ∨ (i = q' ∧ c' + 1 ≤ k) then pl a.data.toList b.data.toList i k else 0) := by rw [← hW]; exact hgrid.drewN _
              have hb2 : Below g w W := by rw [← hW]; exact below_drewN hbr _
              clear hW hgrid hbr
              have r0 := hg2.row q' (by omega)
              have r1 := hg2.row (q' + 1) (by omega)
              have c00 := hg2.cell q' c' (by omega) (by omega)
              have f00 := hg2.free q' c' (by omega) (by omega)
              have c01 := hg2.cell q' (c' + 1) (by omega) (by omega)
              have c10 := hg2.cell (q' + 1) c' (by omega) (by omega)
              have c11 := hg2.cell (q' + 1) (c' + 1) (by omega) (by omega)
              rw [if_pos (.inr ⟨rfl, Nat.le_refl _⟩)] at c01
              rw [if_pos (.inl (Nat.le_refl _))] at c10 c11
              have hgs := hg2.set q' c' (pl a.data.toList b.data.toList q' c') (by omega) (by omega)
              have hgn := hgs.congr (f' := fun i k => if q' + 1 ≤ i ∨ (i = q' ∧ c' ≤ k) then pl a.data.toList b.data.toList i k else 0) (fun i k hi hk => by
                by_cases h1 : i = q' ∧ k = c'
                · rw [if_pos h1, if_pos (.inr ⟨h1.1, by omega⟩), h1.1, h1.2]
                · rw [if_neg h1]
                  by_cases h2 : q' + 1 ≤ i ∨ (i = q' ∧ c' + 1 ≤ k)
                  · rw [if_pos h2, if_pos (by omega)]
                  · rw [if_neg h2, if_neg (by omega)])
              have hbn := hb2.setCell (p := ⟨g + 1 + q', c', none⟩) (by show g ≤ g + 1 + q'; omega) (.int .i64 (pl a.data.toList b.data.toList q' c' : Nat))
              have Hgn := Lib.hid hgn
              have Hbn := Lib.hid hbn
              have l11 := pl_le a.data.toList b.data.toList (q' + 1) (c' + 1)
              have l10 := pl_le a.data.toList b.data.toList (q' + 1) c'
              have l01 := pl_le a.data.toList b.data.toList q' (c' + 1)
              have hal : a.data.toList.length = a.size := rfl
              rw [hal] at l11 l10 l01
              clear hgs hgn hbn hg2 hb2 hal
              obtain ⟨Q, hQ⟩ : ∃ Q, q' + 1 = Q := ⟨_, rfl⟩
              obtain ⟨C, hC⟩ : ∃ C, c' + 1 = C := ⟨_, rfl⟩
              rw [hQ] at r1 c10 c11 l10 l11
              rw [hC] at c01 c11 l01 l11
              rw [hQ, hC] at Hst
              have wq : IntKind.i64.wrap ((q' : Int) + 1) = (Q : Int) := by rw [IntKind.wrap_i64]; omega
              have wc : IntKind.i64.wrap ((c' : Int) + 1) = (C : Int) := by rw [IntKind.wrap_i64]; omega
              have bq : (Q : Int) < a.size + 1 := by omega
              have bc : (C : Int) < b.size + 1 := by omega
              have dq : (q' : Int) < a.size + 1 := by omega
              have dc : (c' : Int) < b.size + 1 := by omega
              have dq' : q' < a.size + 1 := by omega
              have dc' : c' < b.size + 1 := by omega
              have bq' : Q < a.size + 1 := by omega
              have bc' : C < b.size + 1 := by omega
              have HQ := Lib.hid hQ
              have HC := Lib.hid hC
              clear hQ hC
              generalize hN : pl a.data.toList b.data.toList q' c' = N at Hst Hgn Hbn
              generalize pl a.data.toList b.data.toList Q C = P11 at *
              generalize pl a.data.toList b.data.toList Q c' = P10 at *
              generalize pl a.data.toList b.data.toList q' C = P01 at *
              clear hN
              generalize (if q' + 1 ≤ q' ∨ (q' = q' ∧ c' + 1 ≤ c') then pl a.data.toList b.data.toList q' c' else 0) = v00 at *
              by_cases heq : a[q'] = b[c']
              · have hzt : z = true := by rw [← hz]; exact Heq'.out heq
                subst hzt
                have hn : N = P11 + 1 := by have := Hst.out; rwa [if_pos heq] at this
                have wn : IntKind.i64.wrap ((P11 : Int) + 1) = (N : Int) := by rw [IntKind.wrap_i64]; omega
                clear heq hz hn
                go_wp2
                go_still_tail 16, (by kernel_rfl)
                change wpList _ _ _ _ _ W.drew
                go_wp2
                go_roundw
                case rel =>
                  repeat apply Exists.intro
                  exact ⟨⟨c', by omega, by go_num, ⟨Hgn.out.lt, Hgn.out.row, Hgn.out.cell, Hgn.out.free⟩, Hbn.out.drew⟩, rfl⟩
                case measure => simp [intOf] <;> omega
              · have hzt : z = false := by rw [← hz]; exact Hne.out heq
                subst hzt
                have hn : N = max P10 P01 := by have := Hst.out; rwa [if_neg heq] at this
                have hmax : ∀ (ats : Array TypeId) (t : TypeId) (w : World), (Builtin.max_ ats t #[.int .i64 (P10 : Int), .int .i64 (P01 : Int)]).run Tryz.prog w = .ok (.int .i64 (N : Int)) w := fun ats t w => by
                  rw [run_max_int2]; congr 2; omega
                clear heq hz hn
                go_wp2
                go_still_tail 23, (by kernel_rfl)
                change wpList _ _ _ _ _ W.drew
                go_wp2
                go_roundw
                case rel =>
                  repeat apply Exists.intro
                  exact ⟨⟨c', by omega, by go_num, ⟨Hgn.out.lt, Hgn.out.row, Hgn.out.cell, Hgn.out.free⟩, Hbn.out.drew⟩, rfl⟩
                case measure => simp [intOf] <;> omega

end Go.Proofs.YtaogegpfapfchaaGreatDoor

