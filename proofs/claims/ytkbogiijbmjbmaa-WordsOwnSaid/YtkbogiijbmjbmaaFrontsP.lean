/- Plain: how far a word begins anew behind itself (the Z function), its occurrences and its borders. -/
import Derived.Test.YtkbogiijbmjbmaaSeek
namespace Go.Proofs.Ytkbogiijbmjbmaa
set_option linter.unusedVariables false

/-- How far two rows of bytes begin alike. -/
def zl : List UInt8 → List UInt8 → Nat
  | x :: a, y :: b => if x = y then zl a b + 1 else 0
  | _, _ => 0
theorem zl_ge : ∀ (a b : List UInt8) (m : Nat), m ≤ zl a b ↔ m ≤ a.length ∧ m ≤ b.length ∧ ∀ x, x < m → a.getD x 0 = b.getD x 0
  | [], b, m => by
    simp only [zl, List.length_nil]
    exact ⟨fun h => ⟨h, by omega, fun x hx => by omega⟩, fun h => h.1⟩
  | x :: a, [], m => by
    simp only [zl, List.length_nil]
    exact ⟨fun h => ⟨by omega, h, fun x hx => by omega⟩, fun h => h.2.1⟩
  | x :: a, y :: b, m => by
    have ih := zl_ge a b
    simp only [zl, List.length_cons]
    cases m with
    | zero => exact ⟨fun _ => ⟨by omega, by omega, fun x hx => by omega⟩, fun _ => by omega⟩
    | succ m =>
      by_cases h : x = y
      · rw [if_pos h, Nat.add_le_add_iff_right, ih m]
        refine ⟨fun ⟨h1, h2, h3⟩ => ⟨by omega, by omega, fun j hj => ?_⟩, fun ⟨h1, h2, h3⟩ => ⟨by omega, by omega, fun j hj => by simpa using h3 (j + 1) (by omega)⟩⟩
        cases j with
        | zero => simpa using h
        | succ j => simpa using h3 j (by omega)
      · rw [if_neg h]
        exact ⟨fun h => by omega, fun ⟨_, _, h3⟩ => absurd (by simpa using h3 0 (by omega)) h⟩
theorem zl_eq {a b : List UInt8} {k : Nat} (ha : k ≤ a.length) (hb : k ≤ b.length) (h : ∀ x, x < k → a.getD x 0 = b.getD x 0) (hk : k = a.length ∨ k = b.length ∨ a.getD k 0 ≠ b.getD k 0) : zl a b = k := by
  have h1 : k ≤ zl a b := (zl_ge a b k).2 ⟨ha, hb, h⟩
  have h2 : ¬ k + 1 ≤ zl a b := fun h => by
    obtain ⟨g1, g2, g3⟩ := (zl_ge a b (k + 1)).1 h
    rcases hk with e | e | e
    · omega
    · omega
    · exact e (g3 k (by omega))
  omega
def zat (t : List UInt8) (i : Nat) : Nat := zl t (t.drop i)
def zOf (t : List UInt8) : List Int := (List.range t.length).map fun i => ((zat t i : Nat) : Int)
theorem zOf_length (t : List UInt8) : (zOf t).length = t.length := by simp [zOf]
theorem zOf_at (t : List UInt8) (i : Nat) (h : i < t.length) : (zOf t).getD i 0 = ((zat t i : Nat) : Int) := by
  rw [getD_some _ _ _ (by rw [zOf_length]; exact h)]; simp [zOf]
theorem zat_ge (t : List UInt8) (i m : Nat) (hi : i ≤ t.length) : m ≤ zat t i ↔ i + m ≤ t.length ∧ ∀ x, x < m → t.getD x 0 = t.getD (i + x) 0 := by
  unfold zat
  rw [zl_ge, List.length_drop]
  constructor
  · rintro ⟨h1, h2, h3⟩
    exact ⟨by omega, fun x hx => by rw [h3 x hx, getD_drop]⟩
  · rintro ⟨h1, h2⟩
    exact ⟨by omega, by omega, fun x hx => by rw [h2 x hx, getD_drop]⟩
theorem zat_le (t : List UInt8) (i : Nat) (hi : i ≤ t.length) : i + zat t i ≤ t.length := ((zat_ge t i _ hi).1 (Nat.le_refl _)).1

/-- So far it begins anew at i. -/
def Zp (t : List UInt8) (i k : Nat) : Prop := i + k ≤ t.length ∧ ∀ x, x < k → t.getD x 0 = t.getD (i + x) 0
theorem zp_zero {t : List UInt8} {i : Nat} (h : i ≤ t.length) : Zp t i 0 := ⟨by omega, fun x hx => by omega⟩
theorem Zp.step {t : List UInt8} {i k : Nat} (h : Zp t i k) (hk : i + k < t.length) (he : t.getD k 0 = t.getD (i + k) 0) : Zp t i (k + 1) :=
  ⟨by omega, fun x hx => by
    by_cases e : x = k
    · rw [e]; exact he
    · exact h.2 x (by omega)⟩
theorem Zp.done {t : List UInt8} {i k : Nat} (h : Zp t i k) (hk : i + k < t.length → t.getD k 0 ≠ t.getD (i + k) 0) : zat t i = k := by
  have h1 := h.1
  refine zl_eq (by omega) (by rw [List.length_drop]; omega) (fun x hx => by rw [h.2 x hx, getD_drop]) ?_
  by_cases e : i + k < t.length
  · exact .inr (.inr (by rw [getD_drop]; exact hk e))
  · exact .inr (.inl (by rw [List.length_drop]; omega))
/-- What is known behind place fr. -/
def Seg (t : List UInt8) (fr to : Nat) : Prop := to ≤ t.length ∧ (to = 0 ∨ 1 ≤ fr) ∧ ∀ x, fr ≤ x → x < to → t.getD x 0 = t.getD (x - fr) 0
theorem seg_start (t : List UInt8) : Seg t 0 0 := ⟨by omega, .inl rfl, fun x _ hx => by omega⟩
theorem Seg.zp {t : List UInt8} {fr to i : Nat} (h : Seg t fr to) (hf : fr < i) (hi : i < to) (k : Nat) (hk : k ≤ zat t (i - fr)) (hk' : k ≤ to - i) : Zp t i k := by
  obtain ⟨h1, h2, h3⟩ := h
  obtain ⟨g1, g2⟩ := (zat_ge t (i - fr) k (by omega)).1 hk
  refine ⟨by omega, fun x hx => ?_⟩
  rw [g2 x hx, h3 (i + x) (by omega) (by omega)]
  congr 1; omega
theorem Zp.seg {t : List UInt8} {i k : Nat} (h : Zp t i k) (hi : 1 ≤ i) : Seg t i (i + k) :=
  ⟨h.1, .inr hi, fun x h1 h2 => by
    have := h.2 (x - i) (by omega)
    rw [show i + (x - i) = x from by omega] at this
    exact this.symm⟩

/-- All places of a pattern are told. -/
theorem z_occ (s p : List UInt8) (k : Nat) (hk : k ≤ s.length) : p.length ≤ zat (p ++ s) (p.length + k) ↔ Occ s p k := by
  rw [zat_ge _ _ _ (by rw [List.length_append]; omega), List.length_append]
  unfold Occ
  constructor
  · rintro ⟨h1, h2⟩
    refine ⟨by omega, fun j hj => ?_⟩
    have := h2 j hj
    rw [getD_app_left _ _ _ _ hj, getD_app_right _ _ _ _ (by omega)] at this
    rw [this]; congr 1; omega
  · rintro ⟨h1, h2⟩
    refine ⟨by omega, fun j hj => ?_⟩
    rw [getD_app_left _ _ _ _ hj, getD_app_right _ _ _ _ (by omega), h2 j hj]
    congr 1; omega
/-- A border is where it goes on to the end. -/
theorem z_border (t : List UInt8) (i : Nat) (h1 : 1 ≤ i) (hi : i < t.length) : i + zat t i = t.length ↔ Bd t t.length (t.length - i) := by
  have hle := zat_le t i (by omega)
  have hg := zat_ge t i (t.length - i) (by omega)
  unfold Bd
  constructor
  · intro h
    have := (hg.1 (by omega)).2
    exact ⟨by omega, fun j hj => by rw [this j hj]; congr 1; omega⟩
  · rintro ⟨_, h2⟩
    have := hg.2 ⟨by omega, fun x hx => by rw [h2 x hx]; congr 1; omega⟩
    omega
theorem best_step (t : List UInt8) (i : Nat) (h1 : 1 ≤ i) (hi : i < t.length) : lbd t t.length (t.length - (i - 1)) = if i + zat t i = t.length then zat t i else lbd t t.length (t.length - i) := by
  have e : t.length - (i - 1) = (t.length - i) + 1 := by omega
  rw [e, lbd]
  by_cases h : i + zat t i = t.length
  · rw [if_pos ((z_border t i h1 hi).1 h), if_pos h]; omega
  · rw [if_neg (fun g => h ((z_border t i h1 hi).2 g)), if_neg h]
theorem best_start (t : List UInt8) (h : 0 < t.length) : lbd t t.length (t.length - (t.length - 1)) = 0 := by
  rw [show t.length - (t.length - 1) = 1 from by omega, lbd, lbd]
  split <;> rfl
theorem fronts_known : zOf [97, 97, 98, 97, 97] = [5, 1, 0, 2, 1] := by decide +kernel
end Go.Proofs.Ytkbogiijbmjbmaa
