/- Plain: the arms of the middles of a text (Manacher): each tells a palindrome that cannot be extended; from behind they stand the other way round. -/
import Derived.Test.YtjdeckjkcpglcaaPlain
namespace Go.Proofs.Ytjdeckjkcpglcaa

/-- The text with gaps: the byte i stands at 2i+1. -/
def gapped (s : List UInt8) (p : Nat) : Option UInt8 := if p % 2 = 0 then none else some (s.getD (p / 2) 0)
/-- Around the middle k all is mirrored up to n. -/
def Arm (s : List UInt8) (k n : Nat) : Prop := n ≤ k ∧ k + n ≤ 2 * s.length ∧ ∀ j, j ≤ n → gapped s (k - j) = gapped s (k + j)
def IsArm (s : List UInt8) (k n : Nat) : Prop := Arm s k n ∧ ¬ Arm s k (n + 1)
instance (s : List UInt8) (k n : Nat) : Decidable (Arm s k n) := by unfold Arm; exact inferInstance
instance (s : List UInt8) (k n : Nat) : Decidable (IsArm s k n) := by unfold IsArm; exact inferInstance

theorem Arm.less {s : List UInt8} {k n m : Nat} (h : Arm s k n) (hm : m ≤ n) : Arm s k m := ⟨by have := h.1; omega, by have := h.2.1; omega, fun j hj => h.2.2 j (by omega)⟩
theorem Arm.zero {s : List UInt8} {k : Nat} (h : k ≤ 2 * s.length) : Arm s k 0 := ⟨by omega, by omega, fun j hj => by rw [show j = 0 from by omega]; rfl⟩
theorem Arm.succ {s : List UInt8} {k n : Nat} (h : Arm s k n) (h1 : n + 1 ≤ k) (h2 : k + (n + 1) ≤ 2 * s.length) (h3 : gapped s (k - (n + 1)) = gapped s (k + (n + 1))) : Arm s k (n + 1) :=
  ⟨h1, h2, fun j hj => by
    by_cases e : j = n + 1
    · rw [e]; exact h3
    · exact h.2.2 j (by omega)⟩
theorem isArm_unique {s : List UInt8} {k n m : Nat} (h : IsArm s k n) (h' : IsArm s k m) : n = m := by
  rcases Nat.lt_trichotomy n m with hlt | rfl | hlt
  · exact absurd (h'.1.less hlt) h.2
  · rfl
  · exact absurd (h.1.less hlt) h'.2

theorem gapped_odd (s : List UInt8) (p : Nat) (h : p % 2 = 1) : gapped s p = some (s.getD (p / 2) 0) := by unfold gapped; rw [if_neg (by omega)]
theorem gapped_even (s : List UInt8) (p : Nat) (h : p % 2 = 0) : gapped s p = none := by unfold gapped; rw [if_pos h]

/-- The test of the program. -/
def stepB (s : List UInt8) (k n : Nat) : Bool := (k + n) % 2 == 1 || s.getD ((k - n) / 2 - 1) 0 == s.getD ((k + n) / 2) 0
theorem arm_step {s : List UInt8} {k n : Nat} (h : Arm s k n) (h1 : n < k) (h2 : k + n < 2 * s.length) (h3 : (k + n) % 2 = 1 ∨ s.getD ((k - n) / 2 - 1) 0 = s.getD ((k + n) / 2) 0) : Arm s k (n + 1) := by
  refine h.succ h1 (by omega) ?_
  by_cases hp : (k + n) % 2 = 1
  · rw [gapped_even _ _ (by omega), gapped_even _ _ (by omega)]
  · have h4 := h3.resolve_left hp
    rw [gapped_odd _ _ (by omega), gapped_odd _ _ (by omega), show (k - (n + 1)) / 2 = (k - n) / 2 - 1 from by omega, show (k + (n + 1)) / 2 = (k + n) / 2 from by omega, h4]
theorem arm_stop {s : List UInt8} {k n : Nat} (h : ¬ (n < k ∧ k + n < 2 * s.length ∧ ((k + n) % 2 = 1 ∨ s.getD ((k - n) / 2 - 1) 0 = s.getD ((k + n) / 2) 0))) : ¬ Arm s k (n + 1) := by
  intro ha
  apply h
  have h1 := ha.1
  have h2 := ha.2.1
  refine ⟨by omega, by omega, ?_⟩
  by_cases hp : (k + n) % 2 = 1
  · exact .inl hp
  · right
    have := ha.2.2 (n + 1) (Nat.le_refl _)
    rw [gapped_odd _ _ (by omega), gapped_odd _ _ (by omega), show (k - (n + 1)) / 2 = (k - n) / 2 - 1 from by omega, show (k + (n + 1)) / 2 = (k + n) / 2 from by omega] at this
    exact Option.some.inj this

/-- Manacher: inside a palindrome the arms are mirrored. -/
theorem arm_mirror {s : List UInt8} {mid e k i : Nat} (he : Arm s mid (e - mid)) (hm : mid < k) (hk : k < e) {a : Nat} (ha : Arm s (2 * mid - k) a) (hi : i ≤ a) (hi2 : i ≤ e - k) : Arm s k i := by
  have h1 := he.1
  have h2 := he.2.1
  have g1 := ha.1
  refine ⟨by omega, by omega, fun j hj => ?_⟩
  have m1 := he.2.2 (k + j - mid) (by omega)
  have m3 := ha.2.2 j (by omega)
  rw [show mid + (k + j - mid) = k + j from by omega, show mid - (k + j - mid) = 2 * mid - k - j from by omega] at m1
  rw [← m1, m3]
  by_cases hjm : mid ≤ k - j
  · have m2 := he.2.2 (k - j - mid) (by omega)
    rw [show mid + (k - j - mid) = k - j from by omega, show mid - (k - j - mid) = 2 * mid - k + j from by omega] at m2
    rw [m2]
  · have m2 := he.2.2 (mid - (k - j)) (by omega)
    rw [show mid - (mid - (k - j)) = k - j from by omega, show mid + (mid - (k - j)) = 2 * mid - k + j from by omega] at m2
    rw [m2]

theorem gapped_reverse (s : List UInt8) (p : Nat) (h : p ≤ 2 * s.length) : gapped s.reverse p = gapped s (2 * s.length - p) := by
  unfold gapped
  by_cases hp : p % 2 = 0
  · rw [if_pos hp, if_pos (by omega)]
  · rw [if_neg hp, if_neg (by omega), getD_reverse _ _ _ (by omega)]
    congr 2; omega
theorem arm_reverse {s : List UInt8} {k n : Nat} (h : Arm s k n) : Arm s.reverse (2 * s.length - k) n := by
  have h1 := h.1
  have h2 := h.2.1
  refine ⟨by omega, by rw [List.length_reverse]; omega, fun j hj => ?_⟩
  rw [gapped_reverse _ _ (by omega), gapped_reverse _ _ (by omega), show 2 * s.length - (2 * s.length - k - j) = k + j from by omega, show 2 * s.length - (2 * s.length - k + j) = k - j from by omega]
  exact (h.2.2 j hj).symm
theorem isArm_reverse {s : List UInt8} {k n : Nat} (hk : k ≤ 2 * s.length) (h : IsArm s k n) : IsArm s.reverse (2 * s.length - k) n := by
  refine ⟨arm_reverse h.1, fun ha => h.2 ?_⟩
  have := arm_reverse ha
  rw [List.reverse_reverse, List.length_reverse, show 2 * s.length - (2 * s.length - k) = k from by omega] at this
  exact this

theorem isArm_parity {s : List UInt8} {k n : Nat} (h : IsArm s k n) : (n + k) % 2 = 0 := by
  rcases Nat.mod_two_eq_zero_or_one (n + k) with e | e
  · exact e
  · exfalso
    have h1 := h.1.1
    have h2 := h.1.2.1
    exact h.2 (arm_step h.1 (by omega) (by omega) (.inl (by omega)))
theorem isArm_bd {s : List UInt8} {k n : Nat} (h : IsArm s k n) : n ≤ k ∧ k + n ≤ 2 * s.length := ⟨h.1.1, h.1.2.1⟩
theorem isArm_pal {s : List UInt8} {k n : Nat} (h : IsArm s k n) : ((s.drop ((k - n) / 2)).take ((k + n) / 2 - (k - n) / 2)).reverse = (s.drop ((k - n) / 2)).take ((k + n) / 2 - (k - n) / 2) := by
  have hp := isArm_parity h
  obtain ⟨h1, h2⟩ := isArm_bd h
  obtain ⟨a, ha⟩ : ∃ a, k = n + 2 * a := ⟨(k - n) / 2, by omega⟩
  have e1 : (k - n) / 2 = a := by omega
  have e2 : (k + n) / 2 - (k - n) / 2 = n := by omega
  rw [e2, e1]
  have hl : ((s.drop a).take n).length = n := by rw [List.length_take, List.length_drop]; omega
  refine ext_getD _ _ 0 (by rw [List.length_reverse]) fun x hx => ?_
  rw [List.length_reverse, hl] at hx
  rw [getD_reverse _ _ _ (by rw [hl]; exact hx), hl, getD_take _ _ _ _ (by omega), getD_take _ _ _ _ hx, getD_drop, getD_drop]
  have key : ∀ j, j ≤ n → j % 2 ≠ n % 2 → s.getD ((k - j) / 2) 0 = s.getD ((k + j) / 2) 0 := fun j hj hpar => by
    have := h.1.2.2 j hj
    rw [gapped_odd _ _ (by omega), gapped_odd _ _ (by omega)] at this
    exact Option.some.inj this
  by_cases hc : 2 * x + 1 ≤ n
  · have := key (n - (2 * x + 1)) (by omega) (by omega)
    rw [show (k - (n - (2 * x + 1))) / 2 = a + x from by omega, show (k + (n - (2 * x + 1))) / 2 = a + (n - 1 - x) from by omega] at this
    exact this.symm
  · have := key (2 * x + 1 - n) (by omega) (by omega)
    rw [show (k - (2 * x + 1 - n)) / 2 = a + (n - 1 - x) from by omega, show (k + (2 * x + 1 - n)) / 2 = a + x from by omega] at this
    exact this
theorem isArm_max {s : List UInt8} {k n : Nat} (h : IsArm s k n) (h1 : 1 ≤ (k - n) / 2) (h2 : (k + n) / 2 < s.length) : s.getD ((k - n) / 2 - 1) 0 ≠ s.getD ((k + n) / 2) 0 := by
  intro e
  exact h.2 (arm_step h.1 (by omega) (by have := isArm_parity h; omega) (.inr e))

end Go.Proofs.Ytjdeckjkcpglcaa
