/- The walk of the laws' helper mirrors. -/
import Derived.Test.YtjdeckjkcpglcaaMirrorUnl
import Derived.Test.YtjdeckjkcpglcaaBack
import Derived.Test.YtjdeckjkcpglcaaGood
import Derived.OpenShut
namespace Go.Proofs.Ytjdeckjkcpglcaa
open Go.RowKit Go.Sort
set_option linter.unusedVariables false

def abF (k : Nat) : Nat := ([0, 1, 0, 3, 0, 1, 2, 1, 0] : List Nat).getD k 0
theorem abaa_pal : Many (Pal [97, 98, 97, 97]) 4 := by
  have h : ∀ y : List UInt8, y ∈ [[97], [98], [97, 98, 97], [97, 97]] ↔ Pal [97, 98, 97, 97] y := fun y => by
    have h2 := palA_mem (s := [97, 98, 97, 97]) (f := abF) (by decide) (y := y)
    rw [← h2]
    have e : palA [97, 98, 97, 97] abF (2 * ([97, 98, 97, 97] : List UInt8).length + 1) = [[97], [97, 98, 97], [98], [97], [97, 97], [97]] := by decide
    rw [e]
    simp only [List.mem_cons, List.not_mem_nil, or_false]
    constructor
    · rintro (h | h | h | h) <;> simp [h]
    · rintro (h | h | h | h | h | h) <;> simp [h]
  exact ⟨_, by decide, h, rfl⟩
theorem abaa_long {f : Nat → Nat} {a n : Nat} (hf : ∀ k, k < 2 * 4 + 1 → IsArm [97, 98, 97, 97] k (f k)) (hb : BestArm f (2 * 4 + 1) a n) : a = 0 ∧ n = 3 := by
  have hk : ∀ k, k < 9 → f k = abF k := fun k hk => isArm_unique (hf k hk) ((show ∀ k, k < 9 → IsArm [97, 98, 97, 97] k (abF k) by decide) k hk)
  have h3 := hb.most 3 (by omega)
  rw [hk 3 (by omega)] at h3
  have h3 : 3 ≤ n := h3
  rcases hb.at_ with ⟨h1, _⟩ | ⟨j, h1, h2, h4⟩
  · omega
  · rw [hk j h1] at h2
    have key : ∀ j, j < 9 → 3 ≤ abF j → j = 3 := by decide
    have hj := key j h1 (by rw [h2]; exact h3)
    subst hj
    have h2 : 3 = n := h2
    omega

set_option maxRecDepth 100000 in
set_option maxHeartbeats 2000000 in
theorem mirrors_any (w : World) : Calls Try.prog 4 #[] w fun e w' => e = .returned (.bool true) ∧ Below w.heap.size w w' := by
  have H1 := Lib.hid (unlike_ok ⟨#[97, 98, 97, 97]⟩ (by decide))
  have H2 := Lib.hid (longest_ok ⟨#[97, 98, 97, 97]⟩ (by decide))
  go_enter Try.func4, Try.ntmps4
  go_wp2_with fail
  refine (H1.out _).mono ?_
  rintro e w1 ⟨n, hn, rfl, hb1⟩
  obtain rfl := hn.eq abaa_pal
  clear hn
  go_wp2_with fail
  refine (H2.out _).mono ?_
  rintro e w2 ⟨f, a, n, hf, hb, rfl, hb2⟩
  obtain ⟨rfl, rfl⟩ := abaa_long hf hb
  have hb2 := chain hb2 hb1
  have e1 : (⟨#[97, 98, 97, 97]⟩ : ByteArray).extract 0 (0 + 3) = ⟨#[97, 98, 97]⟩ := by decide
  rw [e1]
  clear hf hb e1 hb1
  go_wp2_with fail
  refine (good_fresh [0, 0] 2 2 rfl (by decide) _ _).mono ?_
  rintro e w3 ⟨rfl, hb3⟩
  have hb3 := chain hb3 hb2
  go_wp2
  all_goals (go_ret; exact ⟨by first | rfl | simp, hb3⟩)
end Go.Proofs.Ytjdeckjkcpglcaa
