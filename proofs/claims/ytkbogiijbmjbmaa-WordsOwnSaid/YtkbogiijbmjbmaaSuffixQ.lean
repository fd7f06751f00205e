/- Plain: what Common writes, step by step. -/
import Derived.Test.YtkbogiijbmjbmaaSuffixP
namespace Go.Proofs.Ytkbogiijbmjbmaa
set_option linter.unusedVariables false

/-- What Common tells. -/
noncomputable def lcpsI (s : List UInt8) : List Int := (List.range s.length).map fun r => ((lcpR s (sOrd s) r : Nat) : Int)
/-- What is written once the first i ends are done. -/
noncomputable def outL (s : List UInt8) (i : Nat) : List Int := (List.range s.length).map fun r => if (sOrd s).getD r 0 < i then ((lcpR s (sOrd s) r : Nat) : Int) else 0
theorem outL_len (s : List UInt8) (i : Nat) : (outL s i).length = s.length := by simp [outL]
theorem lcpsI_len (s : List UInt8) : (lcpsI s).length = s.length := by simp [lcpsI]
theorem map_range_getD {f : Nat → Int} {n r : Nat} (h : r < n) : ((List.range n).map f).getD r 0 = f r := by
  rw [List.getD_eq_getElem?_getD, List.getElem?_map, List.getElem?_range h]; rfl
theorem outL_getD {s : List UInt8} {i r : Nat} (h : r < s.length) : (outL s i).getD r 0 = if (sOrd s).getD r 0 < i then ((lcpR s (sOrd s) r : Nat) : Int) else 0 := map_range_getD h
theorem lcpsI_getD {s : List UInt8} {r : Nat} (h : r < s.length) : (lcpsI s).getD r 0 = ((lcpR s (sOrd s) r : Nat) : Int) := map_range_getD h
theorem outL_zero (s : List UInt8) : outL s 0 = List.replicate s.length 0 := by
  unfold outL
  refine List.ext_getElem (by simp) fun j h1 h2 => ?_
  simp
theorem outL_all (s : List UInt8) : outL s s.length = lcpsI s := by
  unfold outL lcpsI
  refine List.map_congr_left fun r hr => ?_
  rw [if_pos ((sOrd_is s).at_lt (List.mem_range.1 hr))]
/-- One end on: its rank's number is written. -/
theorem outL_set {s : List UInt8} {i r : Nat} (hr : r < s.length) (e : (sOrd s).getD r 0 = i) : outL s (i + 1) = (outL s i).set r ((lcpR s (sOrd s) r : Nat) : Int) := by
  refine ext_getD _ _ 0 (by rw [List.length_set, outL_len, outL_len]) fun j hj => ?_
  rw [outL_len] at hj
  rw [getD_set _ _ _ _ (by rw [outL_len]; exact hr), outL_getD hj, outL_getD hj]
  by_cases ej : j = r
  · subst ej; rw [if_pos rfl, if_pos (by omega)]
  · rw [if_neg ej]
    have : (sOrd s).getD j 0 ≠ i := fun h => ej ((sOrd_is s).inj hj hr (h.trans e.symm))
    by_cases h : (sOrd s).getD j 0 < i
    · rw [if_pos h, if_pos (by omega)]
    · rw [if_neg h, if_neg (by omega)]
theorem outL_first {s : List UInt8} {i : Nat} (h0 : 0 < s.length) (e : (sOrd s).getD 0 0 = i) : outL s (i + 1) = outL s i := by
  rw [outL_set h0 e]
  have hl := outL_len s i
  refine ext_getD _ _ 0 (by rw [List.length_set]) fun j hj => ?_
  rw [getD_set _ _ _ _ (by rw [hl]; exact h0)]
  by_cases ej : j = 0
  · subst ej
    rw [if_pos rfl, outL_getD h0, if_neg (by omega)]
    unfold lcpR
    rw [if_pos rfl]; rfl
  · rw [if_neg ej]
/-- What is known of n as the end i comes. -/
def KaN (s : List UInt8) (i n : Nat) : Prop := ∀ r, 0 < r → r < s.length → (sOrd s).getD r 0 = i → n ≤ lcpR s (sOrd s) r
theorem kaN_zero (s : List UInt8) (i : Nat) : KaN s i 0 := fun _ _ _ _ => Nat.zero_le _
theorem kaN_next {s : List UInt8} {i r : Nat} (h0 : 0 < r) (hr : r < s.length) (e : (sOrd s).getD r 0 = i) : KaN s (i + 1) (lcpR s (sOrd s) r - 1) := fun r' h0' hr' e' => (sOrd_is s).kasai hr h0 e hr' h0' e'
/-- One byte on. -/
theorem lcp_more {s : List UInt8} {i k n : Nat} (h : n ≤ lcp (s.drop i) (s.drop k)) : n < lcp (s.drop i) (s.drop k) ↔ (i + n < s.length ∧ k + n < s.length ∧ s.getD (i + n) 0 = s.getD (k + n) 0) := by
  have l1 := lcp_le (s.drop i) (s.drop k)
  have l2 := lcp_le_r (s.drop i) (s.drop k)
  rw [List.length_drop] at l1 l2
  have ht := lcp_take (s.drop i) (s.drop k)
  constructor
  · intro hn
    refine ⟨by omega, by omega, ?_⟩
    have := congrArg (fun l => l.getD n 0) ht
    simp only [getD_take _ _ _ _ hn, getD_drop] at this
    exact this
  · rintro ⟨h1, h2, h3⟩
    refine Nat.lt_of_lt_of_le (Nat.lt_succ_self n) (lcp_ge (by rw [List.length_drop]; omega) (by rw [List.length_drop]; omega) ?_)
    have ht2 := congrArg (List.take n) ht
    rw [List.take_take, List.take_take, Nat.min_eq_left h] at ht2
    rw [take_succ_getD _ n 0 (by rw [List.length_drop]; omega), take_succ_getD _ n 0 (by rw [List.length_drop]; omega), ht2, getD_drop, getD_drop, h3]
theorem sOrd_known : sOrd [97, 98, 97] = [2, 0, 1] := (sOrd_is _).unique ⟨by decide, by unfold ltS; decide⟩
theorem lcps_known : lcpsI [97, 98, 97] = [0, 1, 0] := by
  unfold lcpsI
  rw [sOrd_known]
  decide
end Go.Proofs.Ytkbogiijbmjbmaa
