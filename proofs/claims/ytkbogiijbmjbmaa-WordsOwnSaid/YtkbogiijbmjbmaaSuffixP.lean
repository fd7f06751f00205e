/- Plain: the ends of a word in order, and how far neighbours begin alike (Kasai). -/
import Derived.Test.YtkbogiijbmjbmaaTurnP
namespace Go.Proofs.Ytkbogiijbmjbmaa
set_option linter.unusedVariables false

def ltS (s : List UInt8) (i k : Nat) : Prop := llt (s.drop i) (s.drop k) = true
def cmpS (s : List UInt8) (i k : Nat) : Int := Lib.compareBytes (s.drop i) (s.drop k)
theorem cmpS_lt (s : List UInt8) (i k : Nat) : cmpS s i k < 0 ↔ ltS s i k := by
  unfold cmpS ltS
  rw [compare_llt]
  by_cases h1 : llt (s.drop i) (s.drop k) = true
  · simp [h1]
  · rw [if_neg h1]
    by_cases h2 : s.drop i = s.drop k
    · rw [if_pos h2]; simp [h1]
    · rw [if_neg h2]; simp [h1]
theorem ltS_irrefl (s : List UInt8) (i : Nat) : ¬ ltS s i i := fun h => by unfold ltS at h; rw [llt_irrefl] at h; cases h
theorem ltS_trans {s : List UInt8} {i j k : Nat} (h1 : ltS s i j) (h2 : ltS s j k) : ltS s i k := llt_trans h1 h2
theorem ltS_tri {s : List UInt8} {i k : Nat} (hi : i < s.length) (hk : k < s.length) : ltS s i k ∨ i = k ∨ ltS s k i := by
  rcases llt_tri (s.drop i) (s.drop k) with h | h | h
  · exact .inl h
  · have := congrArg List.length h
    rw [List.length_drop, List.length_drop] at this
    exact .inr (.inl (by omega))
  · exact .inr (.inr h)
/-- The places of a word in the order of its ends. -/
structure IsSOrd (s : List UInt8) (o : List Nat) : Prop where
  perm : o.Perm (List.range s.length)
  sorted : o.Pairwise (ltS s)
theorem IsSOrd.unique {s : List UInt8} {o o' : List Nat} (h : IsSOrd s o) (h' : IsSOrd s o') : o = o' :=
  sorted_eq (R := ltS s) (fun a b h1 h2 => absurd (ltS_trans h1 h2) (ltS_irrefl s a)) (h.perm.trans h'.perm.symm) h.sorted h'.sorted
theorem IsSOrd.len {s : List UInt8} {o : List Nat} (h : IsSOrd s o) : o.length = s.length := by rw [h.perm.length_eq, List.length_range]
theorem IsSOrd.lt {s : List UInt8} {o : List Nat} (h : IsSOrd s o) {i : Nat} (hi : i ∈ o) : i < s.length := List.mem_range.1 (h.perm.mem_iff.1 hi)
theorem IsSOrd.nodup {s : List UInt8} {o : List Nat} (h : IsSOrd s o) : o.Nodup := h.perm.nodup_iff.2 List.nodup_range
theorem IsSOrd.at_lt {s : List UInt8} {o : List Nat} (h : IsSOrd s o) {k : Nat} (hk : k < s.length) : o.getD k 0 < s.length := by
  rw [getD_some _ _ _ (by rw [h.len]; exact hk)]
  exact h.lt (List.getElem_mem _)
theorem IsSOrd.at_ {s : List UInt8} {o : List Nat} (h : IsSOrd s o) {i k : Nat} (hik : i < k) (hk : k < s.length) : ltS s (o.getD i 0) (o.getD k 0) := by
  rw [getD_some _ _ _ (by rw [h.len]; omega), getD_some _ _ _ (by rw [h.len]; exact hk)]
  exact List.pairwise_iff_getElem.1 h.sorted i k _ _ hik
theorem IsSOrd.find {s : List UInt8} {o : List Nat} (h : IsSOrd s o) {i : Nat} (hi : i < s.length) : ∃ r, r < s.length ∧ o.getD r 0 = i := by
  obtain ⟨r, hr, e⟩ := List.getElem_of_mem (h.perm.mem_iff.2 (List.mem_range.2 hi))
  exact ⟨r, by rw [← h.len]; exact hr, by rw [getD_some _ _ _ hr, e]⟩
theorem IsSOrd.inj {s : List UInt8} {o : List Nat} (h : IsSOrd s o) {i k : Nat} (hi : i < s.length) (hk : k < s.length) (e : o.getD i 0 = o.getD k 0) : i = k := by
  rcases Nat.lt_trichotomy i k with hik | hik | hik
  · have := h.at_ hik hk; rw [e] at this; exact absurd this (ltS_irrefl s _)
  · exact hik
  · have := h.at_ hik hi; rw [e] at this; exact absurd this (ltS_irrefl s _)
/-- Order of places, back from the order of ends. -/
theorem IsSOrd.back {s : List UInt8} {o : List Nat} (h : IsSOrd s o) {i k : Nat} (hi : i < s.length) (hk : k < s.length) (e : ltS s (o.getD i 0) (o.getD k 0)) : i < k := by
  rcases Nat.lt_trichotomy i k with hik | hik | hik
  · exact hik
  · subst hik; exact absurd e (ltS_irrefl s _)
  · exact absurd (ltS_trans e (h.at_ hik hi)) (ltS_irrefl s _)

theorem isSOrd_ex (s : List UInt8) : ∃ o, IsSOrd s o := by
  have tr : ∀ a b c : Nat, (!llt (s.drop b) (s.drop a)) = true → (!llt (s.drop c) (s.drop b)) = true → (!llt (s.drop c) (s.drop a)) = true := fun a b c h1 h2 => by
    rw [Bool.not_eq_true'] at *
    exact lle_trans h1 h2
  have tot : ∀ a b : Nat, (!llt (s.drop b) (s.drop a) || !llt (s.drop a) (s.drop b)) = true := fun a b => by
    by_cases h : llt (s.drop b) (s.drop a) = true
    · have : llt (s.drop a) (s.drop b) = false := lle_of_lt h
      rw [this]; simp
    · have : llt (s.drop b) (s.drop a) = false := by simpa using h
      rw [this]; rfl
  have hs := List.pairwise_mergeSort tr tot (List.range s.length)
  have hp := List.mergeSort_perm (List.range s.length) (fun a b => !llt (s.drop b) (s.drop a))
  refine ⟨_, hp, ?_⟩
  have hn := hp.nodup_iff.2 List.nodup_range
  refine List.Pairwise.imp_of_mem (fun {a b} ha hb h => ?_) (List.Pairwise.and hs hn)
  have h1 : llt (s.drop b) (s.drop a) = false := by simpa using h.1
  rcases ltS_tri (s := s) (List.mem_range.1 (hp.mem_iff.1 ha)) (List.mem_range.1 (hp.mem_iff.1 hb)) with k | k | k
  · exact k
  · exact absurd k h.2
  · unfold ltS at k; rw [h1] at k; cases k
noncomputable def sOrd (s : List UInt8) : List Nat := (isSOrd_ex s).choose
theorem sOrd_is (s : List UInt8) : IsSOrd s (sOrd s) := (isSOrd_ex s).choose_spec

/-- How far two texts begin alike. -/
def lcp : List UInt8 → List UInt8 → Nat
  | x :: a, y :: b => if x = y then lcp a b + 1 else 0
  | [], _ => 0
  | _ :: _, [] => 0
theorem lcp_nil (a : List UInt8) : lcp a [] = 0 := by cases a <;> rfl
theorem lcp_comm : ∀ a b, lcp a b = lcp b a
  | [], b => by rw [lcp_nil]; rfl
  | _ :: _, [] => rfl
  | x :: a, y :: b => by
    rw [lcp, lcp, lcp_comm a b]
    by_cases h : x = y
    · rw [if_pos h, if_pos h.symm]
    · rw [if_neg h, if_neg (Ne.symm h)]
theorem lcp_le : ∀ a b, lcp a b ≤ a.length
  | [], _ => Nat.zero_le _
  | _ :: _, [] => Nat.zero_le _
  | x :: a, y :: b => by
    rw [lcp]
    have := lcp_le a b
    by_cases h : x = y
    · rw [if_pos h, List.length_cons]; omega
    · rw [if_neg h]; exact Nat.zero_le _
theorem lcp_le_r (a b : List UInt8) : lcp a b ≤ b.length := lcp_comm a b ▸ lcp_le b a
theorem lcp_take : ∀ a b : List UInt8, a.take (lcp a b) = b.take (lcp a b)
  | [], b => by simp [lcp]
  | _ :: _, [] => by simp [lcp]
  | x :: a, y :: b => by
    rw [lcp]
    by_cases h : x = y
    · rw [if_pos h, List.take_succ_cons, List.take_succ_cons, lcp_take a b, h]
    · rw [if_neg h]; rfl
theorem lcp_ge : ∀ {a b : List UInt8} {n : Nat}, n ≤ a.length → n ≤ b.length → a.take n = b.take n → n ≤ lcp a b
  | _, _, 0, _, _, _ => Nat.zero_le _
  | [], _, n + 1, h, _, _ => by simp at h
  | _ :: _, [], n + 1, _, h, _ => by simp at h
  | x :: a, y :: b, n + 1, h1, h2, h => by
    rw [List.take_succ_cons, List.take_succ_cons] at h
    injection h with e h
    rw [lcp, if_pos e]
    exact Nat.succ_le_succ (lcp_ge (by simpa using h1) (by simpa using h2) h)
theorem lle_cons (x y : UInt8) (a b : List UInt8) : lle (x :: a) (y :: b) ↔ x < y ∨ (x = y ∧ lle a b) := by
  rw [lle_iff, llt_cons, lle_iff]
  constructor
  · rintro ((h | ⟨h, k⟩) | h)
    · exact .inl h
    · exact .inr ⟨h, .inl k⟩
    · injection h with h k; exact .inr ⟨h, .inr k⟩
  · rintro (h | ⟨h, k | k⟩)
    · exact .inl (.inl h)
    · exact .inl (.inr ⟨h, k⟩)
    · exact .inr (by rw [h, k])
theorem lcp_min : ∀ {a b c : List UInt8}, lle a b → lle b c → lcp a c = min (lcp a b) (lcp b c)
  | [], _, _, _, _ => by simp [lcp]
  | x :: a, [], _, h, _ => by unfold lle at h; simp [llt] at h
  | x :: a, y :: b, [], _, h => by unfold lle at h; simp [llt] at h
  | x :: a, y :: b, z :: c, h, k => by
    rw [lle_cons] at h k
    rw [lcp, lcp, lcp]
    rcases h with h | ⟨rfl, h⟩
    · have n1 : x ≠ y := fun e => by subst e; exact u8_irrefl x h
      rw [if_neg n1, Nat.zero_min]
      rcases k with k | ⟨rfl, k⟩
      · have n2 : x ≠ z := fun e => by subst e; exact u8_irrefl x (u8_trans h k)
        rw [if_neg n2]
      · rw [if_neg n1]
    · rcases k with k | ⟨rfl, k⟩
      · have n2 : x ≠ z := fun e => by subst e; exact u8_irrefl x k
        rw [if_neg n2, if_neg n2, Nat.min_zero]
      · rw [if_pos rfl, if_pos rfl, if_pos rfl, lcp_min h k, Nat.succ_min_succ]
theorem ltS_le {s : List UInt8} {i k : Nat} (h : ltS s i k) : lle (s.drop i) (s.drop k) := lle_of_lt h

/-- How far the end at rank r begins as the one ahead of it. -/
def lcpR (s : List UInt8) (o : List Nat) (r : Nat) : Nat := if r = 0 then 0 else lcp (s.drop (o.getD (r - 1) 0)) (s.drop (o.getD r 0))
theorem lcpR_le (s : List UInt8) (o : List Nat) (r : Nat) : lcpR s o r ≤ s.length - o.getD r 0 := by
  unfold lcpR
  by_cases h : r = 0
  · rw [if_pos h]; exact Nat.zero_le _
  · rw [if_neg h]
    have := lcp_le_r (s.drop (o.getD (r - 1) 0)) (s.drop (o.getD r 0))
    rwa [List.length_drop] at this
/-- Two ends begin alike as far as the least number between them tells. -/
theorem IsSOrd.range {s : List UInt8} {o : List Nat} (h : IsSOrd s o) {i : Nat} : ∀ {k : Nat}, i < k → k < s.length →
    (∀ j, i < j → j ≤ k → lcp (s.drop (o.getD i 0)) (s.drop (o.getD k 0)) ≤ lcpR s o j) ∧ ∃ j, i < j ∧ j ≤ k ∧ lcp (s.drop (o.getD i 0)) (s.drop (o.getD k 0)) = lcpR s o j
  | 0, h1, _ => absurd h1 (Nat.not_lt_zero _)
  | k + 1, h1, h2 => by
    have e1 : lcpR s o (k + 1) = lcp (s.drop (o.getD k 0)) (s.drop (o.getD (k + 1) 0)) := by unfold lcpR; rw [if_neg (by omega)]; rfl
    rcases Nat.lt_or_ge i k with hik | hik
    · obtain ⟨a1, j, j1, j2, a2⟩ := h.range hik (by omega)
      have hm := lcp_min (ltS_le (h.at_ hik (by omega))) (ltS_le (h.at_ (Nat.lt_succ_self k) h2))
      rw [← e1] at hm
      have hm1 := Nat.min_le_left (lcp (s.drop (o.getD i 0)) (s.drop (o.getD k 0))) (lcpR s o (k + 1))
      have hm2 := Nat.min_le_right (lcp (s.drop (o.getD i 0)) (s.drop (o.getD k 0))) (lcpR s o (k + 1))
      rw [← hm] at hm1 hm2
      refine ⟨fun j hj hk => ?_, ?_⟩
      · rcases Nat.lt_or_ge k j with hkj | hkj
        · obtain rfl : j = k + 1 := by omega
          exact hm2
        · exact Nat.le_trans hm1 (a1 j hj hkj)
      · rcases Nat.le_total (lcp (s.drop (o.getD i 0)) (s.drop (o.getD k 0))) (lcpR s o (k + 1)) with hle | hle
        · exact ⟨j, j1, by omega, by rw [hm, Nat.min_eq_left hle, a2]⟩
        · exact ⟨k + 1, by omega, Nat.le_refl _, by rw [hm, Nat.min_eq_right hle]⟩
    · obtain rfl : i = k := by omega
      refine ⟨fun j hj hk => ?_, i + 1, by omega, Nat.le_refl _, e1.symm⟩
      obtain rfl : j = i + 1 := by omega
      exact Nat.le_of_eq e1.symm
theorem lcp_le_of {s : List UInt8} {i j k : Nat} (h1 : lle (s.drop i) (s.drop j)) (h2 : lle (s.drop j) (s.drop k)) : lcp (s.drop i) (s.drop k) ≤ lcp (s.drop j) (s.drop k) := by
  rw [lcp_min h1 h2]; exact Nat.min_le_right _ _
theorem drop_cons {s : List UInt8} {i : Nat} (h : i < s.length) : s.drop i = s.getD i 0 :: s.drop (i + 1) := drop_getD s i 0 h
theorem lcp_step {s : List UInt8} {i k n : Nat} (hi : i < s.length) (hk : k < s.length) (h : lcp (s.drop i) (s.drop k) = n + 1) : s.getD i 0 = s.getD k 0 ∧ lcp (s.drop (i + 1)) (s.drop (k + 1)) = n := by
  rw [drop_cons hi, drop_cons hk, lcp] at h
  by_cases e : s.getD i 0 = s.getD k 0
  · rw [if_pos e] at h; exact ⟨e, by omega⟩
  · rw [if_neg e] at h; omega
/-- Kasai: one end on, it is at least one less. -/
theorem IsSOrd.kasai {s : List UInt8} {o : List Nat} (h : IsSOrd s o) {r r' i : Nat} (hr : r < s.length) (h0 : 0 < r) (hi : o.getD r 0 = i) (hr' : r' < s.length) (h0' : 0 < r') (hi' : o.getD r' 0 = i + 1) : lcpR s o r - 1 ≤ lcpR s o r' := by
  have e1 : lcpR s o r = lcp (s.drop i) (s.drop (o.getD (r - 1) 0)) := by unfold lcpR; rw [if_neg (by omega), hi, lcp_comm]
  have e2 : lcpR s o r' = lcp (s.drop (o.getD (r' - 1) 0)) (s.drop (i + 1)) := by unfold lcpR; rw [if_neg (by omega), hi']
  obtain ⟨k, hk⟩ : ∃ k, k = o.getD (r - 1) 0 := ⟨_, rfl⟩
  have hlt := h.at_ (show r - 1 < r by omega) hr
  have hkl : k < s.length := hk ▸ h.at_lt (by omega)
  have hil : i < s.length := hi ▸ h.at_lt hr
  rw [hi, ← hk] at hlt
  rw [← hk] at e1
  rcases hn : lcp (s.drop i) (s.drop k) with _ | _ | n
  · omega
  · omega
  · obtain ⟨g1, g2⟩ := lcp_step hil hkl hn
    have hk1 : k + 1 < s.length := by
      have := lcp_le_r (s.drop (i + 1)) (s.drop (k + 1))
      rw [List.length_drop] at this
      omega
    have hlt2 : ltS s (k + 1) (i + 1) := by
      unfold ltS at hlt ⊢
      rw [drop_cons hkl, drop_cons hil, llt_cons] at hlt
      rcases hlt with h | ⟨_, h⟩
      · rw [g1] at h; exact absurd h (u8_irrefl _)
      · exact h
    obtain ⟨j, hj, hjk⟩ := h.find hk1
    have hjr : j < r' := h.back hj hr' (by rw [hjk, hi']; exact hlt2)
    have hle : lle (s.drop (k + 1)) (s.drop (o.getD (r' - 1) 0)) := by
      rw [← hjk]
      rcases Nat.lt_or_ge j (r' - 1) with hj1 | hj1
      · exact ltS_le (h.at_ hj1 (by omega))
      · rw [show j = r' - 1 by omega]; exact lle_refl _
    have hlt3 := h.at_ (show r' - 1 < r' by omega) hr'
    rw [hi'] at hlt3
    have := lcp_le_of hle (ltS_le hlt3)
    rw [lcp_comm, g2] at this
    omega
end Go.Proofs.Ytkbogiijbmjbmaa
