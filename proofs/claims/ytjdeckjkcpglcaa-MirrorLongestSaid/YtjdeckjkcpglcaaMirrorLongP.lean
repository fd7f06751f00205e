/- Plain: the longest arm is the longest palindrome. -/
import Derived.Test.YtjdeckjkcpglcaaMirrorLong
import Derived.Test.YtjdeckjkcpglcaaOccP
namespace Go.Proofs.Ytjdeckjkcpglcaa
set_option linter.unusedVariables false

theorem arm_le {s : List UInt8} {k n m : Nat} (h : IsArm s k n) (ha : Arm s k m) : m ≤ n := by
  rcases Nat.lt_or_ge n m with h1 | h1
  · exact absurd (ha.less (by omega)) h.2
  · exact h1
theorem longest_facts {s : List UInt8} {f : Nat → Nat} {a n : Nat} (hf : ∀ k, k < 2 * s.length + 1 → IsArm s k (f k)) (hb : BestArm f (2 * s.length + 1) a n) :
    a + n ≤ s.length ∧ (seg s a n).reverse = seg s a n ∧ (∀ b m, b + m ≤ s.length → (seg s b m).reverse = seg s b m → m ≤ n) ∧ (∀ k, k < 2 * s.length + 1 → f k ≤ n) ∧ ∃ k, k < 2 * s.length + 1 ∧ f k = n := by
  have h0 : f 0 = 0 := by have := (isArm_bd (hf 0 (by omega))).1; omega
  refine ⟨?_, ?_, fun b m hbm hp => ?_, hb.most, ?_⟩
  · rcases hb.at_ with ⟨h1, h2⟩ | ⟨j, h1, h2, h3⟩
    · omega
    · have := isArm_bd (hf j h1)
      rw [h2] at this
      omega
  · rcases hb.at_ with ⟨rfl, rfl⟩ | ⟨j, h1, h2, h3⟩
    · unfold seg; simp
    · have k := hf j h1
      rw [h2] at k
      have kp := isArm_parity k
      have kb := isArm_bd k
      have e : j = n + 2 * a := by omega
      rw [e] at k
      exact arm_pal k.1
  · have ha := pal_arm hbm hp
    exact Nat.le_trans (arm_le (hf (m + 2 * b) (by omega)) ha) (hb.most _ (by omega))
  · rcases hb.at_ with ⟨rfl, rfl⟩ | ⟨j, h1, h2, h3⟩
    · exact ⟨0, by omega, h0⟩
    · exact ⟨j, h1, h2⟩
theorem max_is {l : List Int} {f : Nat → Nat} {N n : Nat} {x : Int} (hl : l.length = N) (hv : ∀ k, k < N → l.getD k 0 = (f k : Int)) (h1 : ∀ k, k < N → f k ≤ n) (h2 : ∃ k, k < N ∧ f k = n) (hm : x ∈ l) (hx : ∀ y ∈ l, y ≤ x) : x = (n : Int) := by
  obtain ⟨k, hk, e⟩ := h2
  have g1 : l.getD k 0 ∈ l := by rw [getD_some _ _ _ (by omega)]; exact List.getElem_mem _
  have g2 := hx _ g1
  rw [hv k hk, e] at g2
  obtain ⟨j, hj, ej⟩ := List.getElem_of_mem hm
  have g3 := hv j (by omega)
  rw [getD_some _ _ _ hj, ej] at g3
  have := h1 j (by omega)
  omega
theorem seg_prefix (s : List UInt8) (a n : Nat) : seg s a n <+: s.drop a := List.take_prefix _ _
end Go.Proofs.Ytjdeckjkcpglcaa
