/- Plain: where a word stands in a text (Knuth, Morris, Pratt). -/
import Derived.Test.YtkbogiijbmjbmaaWord
namespace Go.Proofs.Ytkbogiijbmjbmaa
set_option linter.unusedVariables false

/-- The last k of the first i bytes are the word's first ones. -/
def Mt (s p : List UInt8) (k i : Nat) : Prop := k ≤ i ∧ k ≤ p.length ∧ ∀ j, j < k → p.getD j 0 = s.getD (i - k + j) 0
instance (s p : List UInt8) (k i : Nat) : Decidable (Mt s p k i) := by unfold Mt; exact inferInstance
/-- The most of them. -/
def LMt (s p : List UInt8) (k i : Nat) : Prop := Mt s p k i ∧ ∀ c, Mt s p c i → c ≤ k
theorem mt_zero (s p : List UInt8) (i : Nat) : Mt s p 0 i := ⟨by omega, by omega, fun j hj => by omega⟩
theorem lmt_start (s p : List UInt8) : LMt s p 0 0 := ⟨mt_zero s p 0, fun c hc => by have := hc.1; omega⟩
theorem mt_step (s p : List UInt8) (k i : Nat) : Mt s p (k + 1) (i + 1) ↔ Mt s p k i ∧ k < p.length ∧ p.getD k 0 = s.getD i 0 := by
  constructor
  · rintro ⟨h1, h2, h3⟩
    refine ⟨⟨by omega, by omega, fun j hj => ?_⟩, by omega, ?_⟩
    · have := h3 j (by omega)
      rwa [show i + 1 - (k + 1) + j = i - k + j from by omega] at this
    · have := h3 k (by omega)
      rwa [show i + 1 - (k + 1) + k = i from by omega] at this
  · rintro ⟨⟨h1, h2, h3⟩, h4, h5⟩
    refine ⟨by omega, by omega, fun j hj => ?_⟩
    rw [show i + 1 - (k + 1) + j = i - k + j from by omega]
    by_cases e : j = k
    · rw [e, h5, show i - k + k = i from by omega]
    · exact h3 j (by omega)
theorem mt_border {s p : List UInt8} {k i c : Nat} (h : Mt s p k i) (hb : Bd p k c) : Mt s p c i := by
  refine ⟨by have := h.1; have := hb.1; omega, by have := h.2.1; have := hb.1; omega, fun j hj => ?_⟩
  have h1 := hb.2 j hj
  have h2 := h.2.2 (k - c + j) (by have := hb.1; omega)
  rw [h1, h2]
  have := h.1; have := hb.1
  congr 1; omega
theorem mt_inner {s p : List UInt8} {k i c : Nat} (h : Mt s p k i) (h' : Mt s p c i) (hc : c < k) : Bd p k c := by
  refine ⟨hc, fun j hj => ?_⟩
  have h1 := h'.2.2 j hj
  have h2 := h.2.2 (k - c + j) (by omega)
  rw [h1, h2]
  have := h.1
  congr 1; omega
/-- What holds in the loop that looks for the next one. -/
def CMt (s p : List UInt8) (k i : Nat) : Prop := Mt s p k i ∧ ∀ c, Mt s p c i → c < p.length → p.getD c 0 = s.getD i 0 → c ≤ k
theorem cmt_start {s p : List UInt8} {k i : Nat} (h : LMt s p k i) : CMt s p k i := ⟨h.1, fun c hc _ _ => h.2 c hc⟩
theorem cmt_next {s p : List UInt8} {k i : Nat} (h : CMt s p k i) (hk : 0 < k) (hne : k = p.length ∨ p.getD k 0 ≠ s.getD i 0) : CMt s p (pi p k) i := by
  refine ⟨mt_border h.1 (pi_bd p hk), fun c hc hcl he => ?_⟩
  have h1 := h.2 c hc hcl he
  have h2 : c < k := by
    rcases Nat.lt_or_ge c k with h3 | h3
    · exact h3
    · have e : c = k := by omega
      subst e
      rcases hne with h4 | h4
      · omega
      · exact absurd he h4
  exact pi_max p (mt_inner h.1 hc h2)
theorem cmt_hit {s p : List UInt8} {k i : Nat} (h : CMt s p k i) (hk : k < p.length) (he : p.getD k 0 = s.getD i 0) : LMt s p (k + 1) (i + 1) := by
  refine ⟨(mt_step s p k i).2 ⟨h.1, hk, he⟩, fun c hc => ?_⟩
  cases c with
  | zero => omega
  | succ c =>
    obtain ⟨h1, h2, h3⟩ := (mt_step s p c i).1 hc
    have := h.2 c h1 h2 h3
    omega
theorem cmt_miss {s p : List UInt8} {i : Nat} (h : CMt s p 0 i) (he : p.getD 0 0 ≠ s.getD i 0) : LMt s p 0 (i + 1) := by
  refine ⟨mt_zero s p (i + 1), fun c hc => ?_⟩
  cases c with
  | zero => omega
  | succ c =>
    obtain ⟨h1, h2, h3⟩ := (mt_step s p c i).1 hc
    have := h.2 c h1 h2 h3
    rw [show c = 0 from by omega] at h3
    exact absurd h3 he

/-- Where it stands, as far as the first i bytes tell. -/
def foundOf (s p : List UInt8) : Nat → List Nat
  | 0 => []
  | i + 1 => foundOf s p i ++ if Mt s p p.length (i + 1) then [i + 1 - p.length] else []
theorem foundOf_length (s p : List UInt8) : ∀ i, (foundOf s p i).length ≤ i
  | 0 => Nat.le_refl _
  | i + 1 => by
    have := foundOf_length s p i
    rw [foundOf, List.length_append]
    split <;> simp <;> omega
theorem lmt_found {s p : List UInt8} {k i : Nat} (h : LMt s p k i) : Mt s p p.length i ↔ k = p.length := by
  constructor
  · intro h1
    have := h.2 _ h1
    have := h.1.2.1
    omega
  · rintro rfl
    exact h.1
/-- It stands there. -/
def Occ (s p : List UInt8) (x : Nat) : Prop := x + p.length ≤ s.length ∧ ∀ j, j < p.length → p.getD j 0 = s.getD (x + j) 0
theorem occ_prefix (s p : List UInt8) (x : Nat) (hx : x ≤ s.length) : Occ s p x ↔ p <+: s.drop x := by
  rw [List.prefix_iff_eq_take]
  constructor
  · rintro ⟨h1, h2⟩
    refine ext_getD _ _ 0 (by rw [List.length_take, List.length_drop]; omega) fun j hj => ?_
    rw [getD_take _ _ _ _ hj, getD_drop]
    exact h2 j hj
  · intro h
    have hl := congrArg List.length h
    rw [List.length_take, List.length_drop] at hl
    refine ⟨by omega, fun j hj => ?_⟩
    conv => lhs; rw [h]
    rw [getD_take _ _ _ _ hj, getD_drop]
theorem mem_found (s p : List UInt8) (hp : 0 < p.length) (x : Nat) : ∀ i, i ≤ s.length → (x ∈ foundOf s p i ↔ x + p.length ≤ i ∧ Occ s p x)
  | 0, _ => ⟨fun h => by simp [foundOf] at h, fun ⟨h, _⟩ => by omega⟩
  | i + 1, hi => by
    rw [foundOf, List.mem_append, mem_found s p hp x i (by omega)]
    constructor
    · rintro (⟨h1, h2⟩ | h)
      · exact ⟨by omega, h2⟩
      · by_cases e : Mt s p p.length (i + 1)
        · rw [if_pos e, List.mem_singleton] at h
          have := e.1
          refine ⟨by omega, by omega, fun j hj => ?_⟩
          rw [h]; exact e.2.2 j hj
        · rw [if_neg e] at h; simp at h
    · rintro ⟨h1, h2⟩
      by_cases e : x + p.length = i + 1
      · right
        have hm : Mt s p p.length (i + 1) := ⟨by omega, Nat.le_refl _, fun j hj => by rw [show i + 1 - p.length + j = x + j from by omega]; exact h2.2 j hj⟩
        rw [if_pos hm, List.mem_singleton]; omega
      · exact .inl ⟨by omega, h2⟩
theorem found_rise (s p : List UInt8) (hp : 0 < p.length) : ∀ i, i ≤ s.length → (foundOf s p i).Pairwise (· < ·)
  | 0, _ => List.Pairwise.nil
  | i + 1, hi => by
    rw [foundOf]
    refine List.pairwise_append.2 ⟨found_rise s p hp i (by omega), ?_, fun a ha b hb => ?_⟩
    · split <;> simp
    · by_cases e : Mt s p p.length (i + 1)
      · rw [if_pos e, List.mem_singleton] at hb
        have := ((mem_found s p hp a i (by omega)).1 ha).1
        omega
      · rw [if_neg e] at hb; simp at hb
/-- All places. -/
def findOf (s p : List UInt8) : List Nat := foundOf s p s.length
theorem mem_find (s p : List UInt8) (hp : 0 < p.length) (x : Nat) : x ∈ findOf s p ↔ Occ s p x := by
  unfold findOf
  rw [mem_found s p hp x _ (Nat.le_refl _)]
  exact ⟨fun h => h.2, fun h => ⟨h.1, h⟩⟩
/-- What an error is told. -/
def seekE (n m : Nat) : Int := if 200 < n ∨ 200 < m then 2 else if m = 0 then 5 else 0
theorem seekE_ok {n m : Nat} : seekE n m = 0 ↔ n ≤ 200 ∧ m ≤ 200 ∧ 0 < m := by
  unfold seekE
  by_cases h : 200 < n ∨ 200 < m
  · rw [if_pos h]; omega
  · rw [if_neg h]
    by_cases h2 : m = 0
    · rw [if_pos h2]; omega
    · rw [if_neg h2]; omega

end Go.Proofs.Ytkbogiijbmjbmaa
