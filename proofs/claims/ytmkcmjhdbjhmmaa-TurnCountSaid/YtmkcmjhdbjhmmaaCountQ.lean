/- Plain: what turn.Count computes, and that it is how often a text stands around the ring. -/
import Derived.Test.YtmkcmjhdbjhmmaaCountP
namespace Go.Proofs.Ytmkcmjhdbjhmmaa
set_option linter.unusedVariables false

def lowF (t : List UInt8) : List UInt8 → Nat
  | [] => 0
  | c :: q => lessC t c.toNat + (t.take (lowF t q)).count c
def highF (t : List UInt8) : List UInt8 → Nat
  | [] => t.length
  | c :: q => lessC t c.toNat + (t.take (highF t q)).count c
theorem less_count (c : UInt8) : ∀ t : List UInt8, lessC t c.toNat + t.count c ≤ t.length
  | [] => Nat.le_refl _
  | x :: t => by
    have ih := less_count c t
    unfold lessC at ih ⊢
    rw [List.countP_cons, List.count_cons, List.length_cons]
    by_cases h : x = c
    · subst h; simp; omega
    · have : (x == c) = false := by rw [beq_eq_false_iff_ne]; exact h
      rw [this]
      split <;> simp <;> omega
theorem count_take_le (c : UInt8) (t : List UInt8) (k : Nat) : (t.take k).count c ≤ t.count c := (List.take_sublist _ _).count_le _
theorem lowF_le (t : List UInt8) : ∀ q, lowF t q ≤ t.length
  | [] => Nat.zero_le _
  | c :: q => Nat.le_trans (Nat.add_le_add_left (count_take_le c t _) _) (less_count c t)
theorem highF_le (t : List UInt8) : ∀ q, highF t q ≤ t.length
  | [] => Nat.le_refl _
  | c :: q => Nat.le_trans (Nat.add_le_add_left (count_take_le c t _) _) (less_count c t)
theorem highF_stop (t : List UInt8) {q : List UInt8} (h : highF t q ≤ lowF t q) : ∀ a : List UInt8, highF t (a ++ q) ≤ lowF t (a ++ q)
  | [] => h
  | c :: a => by
    have ih := highF_stop t h a
    refine Nat.add_le_add_left ?_ _
    show (t.take (highF t (a ++ q))).count c ≤ (t.take (lowF t (a ++ q))).count c
    rw [show t.take (highF t (a ++ q)) = (t.take (lowF t (a ++ q))).take (highF t (a ++ q)) by rw [List.take_take, Nat.min_eq_left ih]]
    exact count_take_le _ _ _
theorem lowF_eq {s : List UInt8} {o : List Nat} (ho : IsOrd s o) : ∀ q, lowF (lastB s o) q = lowQ s q
  | [] => (lowQ_nil s).symm
  | c :: q => by
    have ih := lowF_eq ho q
    rcases Nat.eq_zero_or_pos s.length with h0 | h0
    · have hl : (lastB s o).length = 0 := by rw [(lastB_perm ho).length_eq, h0]
      have := lowF_le (lastB s o) (c :: q)
      have h2 : lowQ s (c :: q) ≤ (List.range s.length).length := List.countP_le_length
      rw [List.length_range] at h2
      omega
    · rw [lowF, ih, low_step ho h0, lessC_perm (lastB_perm ho)]
theorem highF_eq {s : List UInt8} {o : List Nat} (ho : IsOrd s o) : ∀ q, highF (lastB s o) q = highQ s q
  | [] => by rw [highF, highQ_nil, (lastB_perm ho).length_eq]
  | c :: q => by
    have ih := highF_eq ho q
    rcases Nat.eq_zero_or_pos s.length with h0 | h0
    · have hl : (lastB s o).length = 0 := by rw [(lastB_perm ho).length_eq, h0]
      have := highF_le (lastB s o) (c :: q)
      have h2 : highQ s (c :: q) ≤ (List.range s.length).length := List.countP_le_length
      rw [List.length_range] at h2
      omega
    · rw [highF, ih, high_step ho h0, lessC_perm (lastB_perm ho)]
/-- What Count tells. -/
def cntF (t p : List UInt8) : Nat := highF t p - lowF t p
theorem cntF_eq {s : List UInt8} {o : List Nat} (ho : IsOrd s o) (p : List UInt8) : cntF (lastB s o) p = hitsQ s p := by
  unfold cntF
  rw [lowF_eq ho, highF_eq ho]
  have := hits_eq s p
  omega
/-- The table of how many bytes are less. -/
theorem lessC_zero (t : List UInt8) : lessC t 0 = 0 := List.countP_eq_zero.2 fun b _ => by simp
theorem lessC_succ (t : List UInt8) (c : Nat) : lessC t (c + 1) = lessC t c + t.countP (fun b => decide (b.toNat = c)) := by
  refine countP_split _ _ _ t (fun b _ => ?_) (fun b _ h => ?_)
  · rw [Bool.eq_iff_iff, Bool.or_eq_true, decide_eq_true_iff, decide_eq_true_iff, decide_eq_true_iff]; omega
  · have := of_decide_eq_true h
    exact decide_eq_false (by omega)
/-- The table once the first k bytes are counted. -/
def tabA (t : List UInt8) (k : Nat) : List Int := (List.range 257).map fun j => if j = 0 then 0 else (((t.take k).countP (fun b => decide (b.toNat = j - 1)) : Nat) : Int)
/-- The table once the first c sums are made. -/
def tabB (t : List UInt8) (c : Nat) : List Int := (List.range 257).map fun j => if j ≤ c then ((lessC t j : Nat) : Int) else ((t.countP (fun b => decide (b.toNat = j - 1)) : Nat) : Int)
theorem tabA_len (t : List UInt8) (k : Nat) : (tabA t k).length = 257 := by simp [tabA]
theorem tabB_len (t : List UInt8) (k : Nat) : (tabB t k).length = 257 := by simp [tabB]
theorem range257_getD {f : Nat → Int} {r : Nat} (h : r < 257) : ((List.range 257).map f).getD r 0 = f r := by
  rw [List.getD_eq_getElem?_getD, List.getElem?_map, List.getElem?_range h]; rfl
theorem tabA_zero (t : List UInt8) : tabA t 0 = List.replicate 257 0 := by
  refine ext_getD _ _ 0 (by rw [tabA_len, List.length_replicate]) fun j hj => ?_
  rw [tabA_len] at hj
  have h1 : (List.replicate 257 (0 : Int)).getD j 0 = 0 := by rw [List.getD_eq_getElem?_getD, List.getElem?_replicate]; split <;> rfl
  unfold tabA
  rw [range257_getD hj, h1, List.take_zero]
  split <;> rfl
theorem tabA_set {t : List UInt8} {k : Nat} (hk : k < t.length) : tabA t (k + 1) = (tabA t k).set ((t.getD k 0).toNat + 1) ((tabA t k).getD ((t.getD k 0).toNat + 1) 0 + 1) := by
  have hb : (t.getD k 0).toNat < 256 := (t.getD k 0).toNat_lt
  refine ext_getD _ _ 0 (by rw [tabA_len, List.length_set, tabA_len]) fun j hj => ?_
  rw [tabA_len] at hj
  rw [getD_set _ _ _ _ (by rw [tabA_len]; omega)]
  unfold tabA
  rw [range257_getD hj, range257_getD hj, range257_getD (by omega), take_succ_getD t k 0 hk, List.countP_append]
  by_cases h0 : j = 0
  · rw [if_pos h0, if_neg (by omega)]
    rw [if_pos h0]
  · rw [if_neg h0]
    by_cases h1 : j = (t.getD k 0).toNat + 1
    · rw [if_pos h1, if_neg (by omega), h1]
      simp
    · rw [if_neg h1, if_neg h0]
      have : ¬ (t.getD k 0).toNat = j - 1 := by omega
      have e2 : List.countP (fun b : UInt8 => decide (b.toNat = j - 1)) [t.getD k 0] = 0 := by rw [List.countP_singleton, if_neg (by rw [decide_eq_true_iff]; exact this)]
      rw [e2, Nat.add_zero]
theorem tabB_zero (t : List UInt8) : tabB t 0 = tabA t t.length := by
  unfold tabA tabB
  refine List.map_congr_left fun j hj => ?_
  rw [List.take_length]
  by_cases h0 : j = 0
  · subst h0; rw [if_pos (Nat.le_refl _), if_pos rfl, lessC_zero]; rfl
  · rw [if_neg (by omega), if_neg h0]
theorem tabB_set {t : List UInt8} {c : Nat} (hc : c < 256) : tabB t (c + 1) = (tabB t c).set (c + 1) ((tabB t c).getD (c + 1) 0 + (tabB t c).getD c 0) := by
  refine ext_getD _ _ 0 (by rw [tabB_len, List.length_set, tabB_len]) fun j hj => ?_
  rw [tabB_len] at hj
  rw [getD_set _ _ _ _ (by rw [tabB_len]; omega)]
  unfold tabB
  rw [range257_getD hj, range257_getD hj, range257_getD (by omega), range257_getD (by omega)]
  by_cases h1 : j = c + 1
  · subst h1
    rw [if_pos (Nat.le_refl _), if_pos rfl, if_neg (by omega), if_pos (Nat.le_refl _), lessC_succ, Nat.add_sub_cancel]
    omega
  · rw [if_neg h1]
    by_cases h2 : j ≤ c
    · rw [if_pos (by omega), if_pos h2]
    · rw [if_neg (by omega), if_neg h2]
theorem tabB_all {t : List UInt8} {c : Nat} (hc : c < 257) : (tabB t 256).getD c 0 = ((lessC t c : Nat) : Int) := by
  unfold tabB
  rw [range257_getD hc, if_pos (by omega)]
theorem tabA_bd (t : List UInt8) (k j : Nat) (hj : j < 257) : 0 ≤ (tabA t k).getD j 0 ∧ (tabA t k).getD j 0 ≤ t.length := by
  unfold tabA
  rw [range257_getD hj]
  by_cases h : j = 0
  · rw [if_pos h]; omega
  · rw [if_neg h]
    have h1 : (t.take k).countP (fun b => decide (b.toNat = j - 1)) ≤ (t.take k).length := List.countP_le_length
    rw [List.length_take] at h1
    omega
theorem tabB_bd (t : List UInt8) (k j : Nat) (hj : j < 257) : 0 ≤ (tabB t k).getD j 0 ∧ (tabB t k).getD j 0 ≤ t.length := by
  unfold tabB
  rw [range257_getD hj]
  have h1 : t.countP (fun b => decide (b.toNat = j - 1)) ≤ t.length := List.countP_le_length
  have h2 : lessC t j ≤ t.length := List.countP_le_length
  split <;> omega
theorem cnt_known : cntF [110, 110, 98, 97, 97, 97] [97, 110, 97] = 2 := by decide
/-- A text that is long enough, made of the word over and over: what stands in it. -/
theorem wide_getD {s x : List UInt8} (hw : ∀ j, j < x.length → x.getD j 0 = s.getD (j % s.length) 0) {i m : Nat} (h : i + m ≤ x.length) : (x.drop i).take m = pw s i m := by
  refine ext_getD _ _ 0 (by rw [pw_len, List.length_take, List.length_drop]; omega) fun j hj => ?_
  rw [List.length_take, List.length_drop] at hj
  rw [getD_take _ _ _ _ (by omega), getD_drop, pw_getD s _ _ _ (by omega), hw _ (by omega)]
theorem wide_more {s x : List UInt8} (h0 : 0 < s.length) (hl : x.length % s.length = 0) (hw : ∀ j, j < x.length → x.getD j 0 = s.getD (j % s.length) 0) : (∀ j, j < (x ++ s).length → (x ++ s).getD j 0 = s.getD (j % s.length) 0) ∧ (x ++ s).length % s.length = 0 := by
  refine ⟨fun j hj => ?_, by rw [List.length_append, Nat.add_mod_right, hl]⟩
  rcases Nat.lt_or_ge j x.length with h | h
  · rw [getD_app_left _ _ _ _ h, hw j h]
  · rw [getD_app_right _ _ _ _ h]
    rw [List.length_append] at hj
    obtain ⟨d, rfl⟩ := Nat.exists_eq_add_of_le h
    rw [Nat.add_sub_cancel_left]
    congr 1
    rw [Nat.add_mod, hl, Nat.zero_add, Nat.mod_mod, Nat.mod_eq_of_lt (by omega)]
/-- Hits among the first k places. -/
def hitsTo (s p : List UInt8) (k : Nat) : Nat := (List.range k).countP fun i => pw s i p.length == p
theorem hitsTo_succ (s p : List UInt8) (k : Nat) : hitsTo s p (k + 1) = hitsTo s p k + if pw s k p.length = p then 1 else 0 := by
  unfold hitsTo
  rw [List.range_succ, List.countP_append, List.countP_singleton]
  congr 1
  by_cases h : pw s k p.length = p
  · rw [if_pos h, if_pos (by rw [beq_iff_eq]; exact h)]
  · rw [if_neg h, if_neg (by rw [beq_iff_eq]; exact h)]
theorem hitsTo_le (s p : List UInt8) (k : Nat) : hitsTo s p k ≤ k := by
  have : hitsTo s p k ≤ (List.range k).length := List.countP_le_length
  rwa [List.length_range] at this
theorem pre_hit {s x p : List UInt8} (hw : ∀ j, j < x.length → x.getD j 0 = s.getD (j % s.length) 0) {i : Nat} (h : i + p.length ≤ x.length) : p <+: x.drop i ↔ pw s i p.length = p := by
  rw [← wide_getD hw h, List.prefix_iff_eq_take]
  exact ⟨fun h => h.symm, fun h => h.symm⟩
end Go.Proofs.Ytmkcmjhdbjhmmaa
