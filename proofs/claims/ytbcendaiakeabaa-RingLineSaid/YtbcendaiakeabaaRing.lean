/- Plain: how many Lyndon words and necklaces there are, as the program reckons them; Witt's and Burnside's sums for all numbers that the program lets in (k to the n at most 512). -/
import Derived.Test.YtbcendaiakeabaaPlain
namespace Go.Proofs.Ytbcendaiakeabaa

/-- What is left of k^d behind the divisors up to j. -/
def xsub (k d : Nat) (l : List Int) : Nat → Int
  | 0 => ((k ^ d : Nat) : Int)
  | j + 1 => if d % (j + 1) = 0 then xsub k d l j - ((j + 1 : Nat) : Int) * l.getD (j + 1) 0 else xsub k d l j
/-- The table of the numbers of Lyndon words, up to d. -/
def tbl (k : Nat) : Nat → List Int
  | 0 => [0]
  | d + 1 => tbl k d ++ [xsub k (d + 1) (tbl k d) d / ((d + 1 : Nat) : Int)]
def wordsOf (k d : Nat) : Int := (tbl k d).getD d 0
def witt (k n : Nat) : Nat → Int
  | 0 => 0
  | j + 1 => if n % (j + 1) = 0 then witt k n j + ((j + 1 : Nat) : Int) * wordsOf k (j + 1) else witt k n j
def many (k n : Nat) : Nat → Int
  | 0 => 0
  | j + 1 => if n % (j + 1) = 0 then many k n j + wordsOf k (j + 1) else many k n j
def ringSum (k n : Nat) : Nat → Int
  | 0 => 0
  | j + 1 => ringSum k n j + ((k ^ (Nat.gcd j n) : Nat) : Int)
def ringsOf (k n : Nat) : Int := ringSum k n n / (n : Int)

theorem tbl_length (k : Nat) : ∀ d, (tbl k d).length = d + 1
  | 0 => rfl
  | d + 1 => by rw [tbl, List.length_append, tbl_length k d]; rfl
theorem tbl_getD (k : Nat) : ∀ (n d : Nat), d ≤ n → (tbl k n).getD d 0 = wordsOf k d
  | 0, d, h => by
    obtain rfl : d = 0 := by omega
    rfl
  | n + 1, d, h => by
    by_cases e : d = n + 1
    · subst e; rfl
    · rw [tbl, getD_app_left _ _ _ _ (by rw [tbl_length]; omega)]
      exact tbl_getD k n d (by omega)
theorem wordsOf_succ (k d : Nat) : wordsOf k (d + 1) = xsub k (d + 1) (tbl k d) d / ((d + 1 : Nat) : Int) := by
  unfold wordsOf
  rw [tbl, getD_app_right _ _ _ _ (by rw [tbl_length]; omega), tbl_length]
  simp

/-! k = 1 -/
theorem xsub_one (d : Nat) (hd : 2 ≤ d) (l : List Int) (h1 : l.getD 1 0 = 1) (h2 : ∀ j, 2 ≤ j → l.getD j 0 = 0) : ∀ j, 1 ≤ j → xsub 1 d l j = 0
  | 0, h => by omega
  | 1, _ => by
    have : ¬ d % (0 + 1) ≠ 0 := by omega
    simp only [xsub]
    rw [if_pos (by omega), h1]; simp
  | j + 2, _ => by
    rw [xsub, h2 _ (by omega), xsub_one d hd l h1 h2 (j + 1) (by omega)]
    simp
theorem tbl_one : ∀ d, (1 ≤ d → (tbl 1 d).getD 1 0 = 1) ∧ (∀ j, 2 ≤ j → (tbl 1 d).getD j 0 = 0)
  | 0 => ⟨fun h => by omega, fun j h => by rw [getD_none]; show 1 ≤ j; omega⟩
  | 1 => by
    have e : tbl 1 1 = [0, 1] := by decide
    rw [e]
    exact ⟨fun _ => rfl, fun j h => by rw [getD_none]; exact h⟩
  | d + 2 => by
    have ih := tbl_one (d + 1)
    refine ⟨fun _ => by rw [tbl_getD _ _ _ (by omega)]; decide, fun j h => ?_⟩
    by_cases e : j ≤ d + 1
    · rw [tbl_getD _ _ _ (by omega), ← tbl_getD 1 (d + 1) j e]; exact ih.2 j h
    · by_cases e2 : j = d + 2
      · subst e2
        have := wordsOf_succ 1 (d + 1)
        rw [xsub_one _ (by omega) _ (ih.1 (by omega)) ih.2 _ (by omega)] at this
        rw [tbl_getD _ _ _ (by omega), this]; simp
      · rw [getD_none]; rw [tbl_length]; omega
theorem words_one (d : Nat) (h : 2 ≤ d) : wordsOf 1 d = 0 := (tbl_one d).2 d h
theorem witt_one (n : Nat) : ∀ j, 1 ≤ j → witt 1 n j = 1
  | 0, h => by omega
  | 1, _ => by simp only [witt]; rw [if_pos (by omega)]; decide
  | j + 2, _ => by rw [witt, words_one _ (by omega), witt_one n (j + 1) (by omega)]; simp
theorem many_one (n : Nat) : ∀ j, 1 ≤ j → many 1 n j = 1
  | 0, h => by omega
  | 1, _ => by simp only [many]; rw [if_pos (by omega)]; decide
  | j + 2, _ => by rw [many, words_one _ (by omega), many_one n (j + 1) (by omega)]; simp
theorem ringSum_one (n : Nat) : ∀ j, ringSum 1 n j = j
  | 0 => rfl
  | j + 1 => by rw [ringSum, ringSum_one n j]; simp

/-! k from 2 to 8: n is at most 9 -/
def okAt (k n : Nat) : Bool :=
  (List.range n).all (fun d => (List.range (d + 1)).all fun j => decide (0 ≤ xsub k (d + 1) (tbl k d) j ∧ xsub k (d + 1) (tbl k d) j ≤ 512)) &&
  decide (witt k n n = ((k ^ n : Nat) : Int)) && decide (many k n n = ringsOf k n) && (List.range (n + 1)).all fun j => decide (0 ≤ ringSum k n j ∧ ringSum k n j ≤ 262144)
theorem all_ok : ([2, 3, 4, 5, 6, 7, 8].all fun k => (List.range 9).all fun n => !decide (k ^ (n + 1) ≤ 512) || okAt k (n + 1)) = true := by decide +kernel

theorem pow_small {k n : Nat} (hk : 2 ≤ k) (h : k ^ n ≤ 512) : n ≤ 9 := by
  rcases Nat.lt_or_ge 9 n with h9 | h9
  · have h1 : 2 ^ 10 ≤ 2 ^ n := Nat.pow_le_pow_right (by decide) h9
    have h2 : 2 ^ n ≤ k ^ n := Nat.pow_le_pow_left hk n
    omega
  · exact h9
theorem ok_at {k n : Nat} (hk : 2 ≤ k) (hk8 : k ≤ 8) (hn : 1 ≤ n) (h : k ^ n ≤ 512) : okAt k n = true := by
  have hn9 := pow_small hk h
  have h1 := List.all_eq_true.1 all_ok k (by
    have : k = 2 ∨ k = 3 ∨ k = 4 ∨ k = 5 ∨ k = 6 ∨ k = 7 ∨ k = 8 := by omega
    rcases this with rfl | rfl | rfl | rfl | rfl | rfl | rfl <;> simp)
  have h2 := List.all_eq_true.1 h1 (n - 1) (by simp; omega)
  rw [show n - 1 + 1 = n from by omega] at h2
  simpa [h] using h2

/-- The numbers that the program lets in. -/
structure Fits (k n : Nat) : Prop where
  k1 : 1 ≤ k
  k8 : k ≤ 8
  n1 : 1 ≤ n
  n512 : n ≤ 512
  pow : k ^ n ≤ 512
theorem pow_le {k d n : Nat} (hk : 1 ≤ k) (h : d ≤ n) : k ^ d ≤ k ^ n := Nat.pow_le_pow_right hk h
theorem Fits.less {k n d : Nat} (h : Fits k n) (h1 : 1 ≤ d) (hd : d ≤ n) : Fits k d := ⟨h.k1, h.k8, h1, Nat.le_trans hd h.n512, Nat.le_trans (pow_le h.k1 hd) h.pow⟩

theorem xsub_bd {k n : Nat} (h : Fits k n) (d j : Nat) (hd : d < n) (hj : j ≤ d) : 0 ≤ xsub k (d + 1) (tbl k d) j ∧ xsub k (d + 1) (tbl k d) j ≤ 512 := by
  by_cases e : k = 1
  · subst e
    cases j with
    | zero => simp [xsub]
    | succ j =>
      rw [xsub_one _ (by omega) _ ((tbl_one d).1 (by omega)) (tbl_one d).2 _ (by omega)]
      omega
  · have := ok_at (by have := h.k1; omega) h.k8 h.n1 h.pow
    unfold okAt at this
    simp only [Bool.and_eq_true, List.all_eq_true, List.mem_range, decide_eq_true_eq] at this
    exact this.1.1.1 d hd j (by omega)
theorem words_bd {k n : Nat} (h : Fits k n) (d : Nat) (hd : d ≤ n) : 0 ≤ wordsOf k d ∧ wordsOf k d ≤ 512 := by
  cases d with
  | zero => simp [wordsOf, tbl]
  | succ d =>
    have := xsub_bd h d d (by omega) (Nat.le_refl _)
    rw [wordsOf_succ]
    refine ⟨Int.ediv_nonneg this.1 (by omega), Int.le_trans (Int.ediv_le_self _ this.1) this.2⟩
theorem witt_law {k n : Nat} (h : Fits k n) : witt k n n = ((k ^ n : Nat) : Int) := by
  by_cases e : k = 1
  · subst e; rw [witt_one n n h.n1]; simp
  · have := ok_at (by have := h.k1; omega) h.k8 h.n1 h.pow
    unfold okAt at this
    simp only [Bool.and_eq_true, decide_eq_true_eq] at this
    exact this.1.1.2
theorem many_law {k n : Nat} (h : Fits k n) : many k n n = ringsOf k n := by
  by_cases e : k = 1
  · subst e
    rw [many_one n n h.n1, ringsOf, ringSum_one, Int.ediv_self]
    have := h.n1; omega
  · have := ok_at (by have := h.k1; omega) h.k8 h.n1 h.pow
    unfold okAt at this
    simp only [Bool.and_eq_true, decide_eq_true_eq] at this
    exact this.1.2
theorem ringSum_bd {k n : Nat} (h : Fits k n) (j : Nat) (hj : j ≤ n) : 0 ≤ ringSum k n j ∧ ringSum k n j ≤ 262144 := by
  by_cases e : k = 1
  · subst e; rw [ringSum_one]; have := h.n512; omega
  · have := ok_at (by have := h.k1; omega) h.k8 h.n1 h.pow
    unfold okAt at this
    simp only [Bool.and_eq_true, List.all_eq_true, List.mem_range, decide_eq_true_eq] at this
    exact this.2 j (by omega)

end Go.Proofs.Ytbcendaiakeabaa
