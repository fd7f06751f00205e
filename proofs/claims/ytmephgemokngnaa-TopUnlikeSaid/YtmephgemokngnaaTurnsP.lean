/- Plain: the least turn of a word; it is a Lyndon word just where the word is of one root. -/
import Derived.Test.YtmephgemokngnaaLyndon
import Derived.Test.YtmephgemokngnaaWordLaw
namespace Go.Proofs.Ytmephgemokngnaa
set_option linter.unusedVariables false

/-- A turn. -/
def rot (k : Nat) (s : List UInt8) : List UInt8 := s.drop k ++ s.take k
theorem rot_length (s : List UInt8) (k : Nat) (hk : k ≤ s.length) : (rot k s).length = s.length := turn_length s k hk
theorem rot_rot (s : List UInt8) (i j : Nat) (hi : i ≤ s.length) (hj : j ≤ s.length) : rot j (rot i s) = if i + j ≤ s.length then rot (i + j) s else rot (i + j - s.length) s := by
  unfold rot
  have hdl : (s.drop i).length = s.length - i := List.length_drop
  split
  · rename_i h
    rw [List.drop_append_of_le_length (by omega), List.take_append_of_le_length (by omega), List.drop_drop, List.append_assoc, List.take_add]
  · rename_i h
    have h1 : j = (s.length - i) + (i + j - s.length) := by omega
    have e1 : (s.drop i ++ s.take i).drop j = (s.take i).drop (i + j - s.length) := by
      rw [List.drop_append, List.drop_eq_nil_of_le (by omega), List.nil_append, hdl]; congr 1; omega
    have e2 : (s.drop i ++ s.take i).take j = s.drop i ++ (s.take i).take (i + j - s.length) := by
      rw [List.take_append, List.take_of_length_le (by omega), hdl]; congr 2; omega
    rw [e1, e2, List.take_take, Nat.min_eq_left (by omega)]
    have hmi : i + j - s.length ≤ i := by omega
    generalize i + j - s.length = m at *
    have e3 : s.drop m = (s.take i).drop m ++ s.drop i := by
      conv => lhs; rw [← List.take_append_drop i s]
      rw [List.drop_append_of_le_length (by rw [List.length_take]; omega)]
    rw [e3, List.append_assoc]
theorem rot_zero (s : List UInt8) : rot 0 s = s := by unfold rot; simp
theorem rot_full (s : List UInt8) : rot s.length s = s := by unfold rot; simp

/-- The least of the turns. -/
structure LeastAt (s : List UInt8) (b : Nat) : Prop where
  lt : b < s.length
  le : ∀ k, k < s.length → lle (rot b s) (rot k s)
theorem LeastAt.le_all {s : List UInt8} {b : Nat} (h : LeastAt s b) (k : Nat) (hk : k ≤ s.length) : lle (rot b s) (rot k s) := by
  by_cases e : k = s.length
  · rw [e, rot_full, ← rot_zero s]
    have := h.le 0 (by have := h.lt; omega)
    rw [rot_zero] at this
    rwa [rot_zero]
  · exact h.le k (by omega)
/-- Turns share it. -/
theorem least_same {s : List UInt8} {a b c : Nat} (ha : a < s.length) (h : LeastAt s b) (h2 : LeastAt (rot a s) c) : rot c (rot a s) = rot b s := by
  have hl := rot_length s a (by omega)
  refine lle_antisymm ?_ ?_
  · -- b's turn of s is a turn of rot a s
    by_cases hab : a ≤ b
    · have := h2.le_all (b - a) (by rw [hl]; have := h.lt; omega)
      rw [rot_rot s a (b - a) (by omega) (by have := h.lt; omega), if_pos (by have := h.lt; omega), show a + (b - a) = b from by omega] at this
      exact this
    · have := h2.le_all (b + s.length - a) (by rw [hl]; have := h.lt; omega)
      rw [rot_rot s a (b + s.length - a) (by omega) (by omega)] at this
      by_cases h0 : b = 0
      · subst h0
        rw [if_pos (by omega), show a + (0 + s.length - a) = s.length from by omega, rot_full] at this
        rw [rot_zero]; exact this
      · rw [if_neg (by omega), show a + (b + s.length - a) - s.length = b from by omega] at this
        exact this
  · have hc := h2.lt
    rw [hl] at hc
    rw [rot_rot s a c (by omega) (by omega)]
    split
    · exact h.le_all _ (by omega)
    · exact h.le_all _ (by omega)

theorem exp_one {t : List UInt8} (ht : 0 < t.length) : expOf t = 1 ↔ rootLen t = t.length := by
  obtain ⟨h1, h2, _⟩ := root_ok t ht
  unfold expOf
  constructor
  · intro h
    have h3 := Nat.div_mul_cancel (Nat.dvd_of_mod_eq_zero h1.2.1)
    rw [h] at h3; omega
  · intro h; rw [h]; exact Nat.div_self ht
/-- A least turn is a Lyndon word just where it is of one root. -/
theorem least_lyn {t : List UInt8} (ht : 0 < t.length) (hmin : ∀ k, k ≤ t.length → lle t (rot k t)) : Lyn t ↔ expOf t = 1 := by
  rw [exp_one ht]
  obtain ⟨hr, hrl, hrm⟩ := root_ok t ht
  constructor
  · intro h
    refine Classical.byContradiction fun hne => ?_
    have hlt : rootLen t < t.length := by omega
    have e : t.drop (rootLen t) = t.take (t.length - rootLen t) := by
      refine ext_getD _ _ 0 (by rw [List.length_drop, List.length_take]; omega) fun j hj => ?_
      rw [List.length_drop] at hj
      rw [getD_drop, getD_take _ _ _ _ hj, Nat.add_comm]
      exact (hr.2.2 j (by omega)).symm
    have h1 := h.2 (t.take (rootLen t)) (t.drop (rootLen t)) (List.take_append_drop _ _).symm (fun h0 => by have := congrArg List.length h0; rw [List.length_take, List.length_nil] at this; have := hr.1; omega) (fun h0 => by have := congrArg List.length h0; rw [List.length_drop, List.length_nil] at this; omega)
    rw [e] at h1
    have h2 := lle_prefix (t.take (t.length - rootLen t)) (t.drop (t.length - rootLen t))
    rw [List.take_append_drop] at h2
    unfold lle at h2
    rw [h1] at h2; cases h2
  · intro hroot
    refine ⟨fun h0 => by rw [h0] at ht; simp at ht, fun u v e hu hv => ?_⟩
    have hup := List.length_pos_iff.2 hu
    have hvp := List.length_pos_iff.2 hv
    have hlen : t.length = u.length + v.length := by rw [e, List.length_append]
    have hrot : rot u.length t = v ++ u := by unfold rot; rw [e, List.drop_left, List.take_left]
    have hm1 := hmin u.length (by omega)
    rw [hrot] at hm1
    rcases llt_tri t v with h | h | h
    · exact h
    · exfalso
      have := congrArg List.length h
      omega
    · exfalso
      rcases llt_dif h with hd | ⟨c, hc, e2⟩
      · have := (hd.app u []).lt
        rw [List.append_nil] at this
        unfold lle at hm1
        rw [this] at hm1; cases hm1
      · have hcl : c.length = u.length := by
          have := congrArg List.length e2
          rw [List.length_append] at this; omega
        have h1 : lle c u := by
          rw [e2] at hm1
          unfold lle at hm1 ⊢
          rwa [llt_app] at hm1
        have hrot2 : rot v.length t = c ++ v := by unfold rot; rw [e2, List.drop_left, List.take_left]
        have hm2 := hmin v.length (by omega)
        rw [hrot2, e] at hm2
        have h2 : lle u c := by
          unfold lle at hm2 ⊢
          rw [Bool.eq_false_iff]
          intro hh
          rcases llt_dif hh with hd | ⟨z, hz, e3⟩
          · rw [(hd.app v v).lt] at hm2; cases hm2
          · have := congrArg List.length e3
            have := List.length_pos_iff.2 hz
            rw [List.length_append] at *; omega
        have hcu := lle_antisymm h1 h2
        subst hcu
        -- c ++ v = v ++ c
        have hcomm : c ++ v = v ++ c := e.symm.trans e2
        have hp1 : Per t c.length := fun j hj => by
          rw [hlen] at hj
          conv => lhs; rw [e2]
          conv => rhs; rw [e]
          rw [getD_app_left _ _ _ _ (by omega), getD_app_right _ _ _ _ (by omega), Nat.add_sub_cancel]
        have hp2 : Per t v.length := fun j hj => by
          rw [hlen] at hj
          conv => lhs; rw [e]
          conv => rhs; rw [e2]
          rw [getD_app_left _ _ _ _ (by omega), getD_app_right _ _ _ _ (by omega), Nat.add_sub_cancel]
        have hp3 := fine_wilf hup hvp hp1 hp2 (by omega)
        have hg : DPer t (Nat.gcd c.length v.length) := ⟨Nat.gcd_pos_of_pos_left _ hup, Nat.mod_eq_zero_of_dvd (by rw [hlen]; exact Nat.dvd_add (Nat.gcd_dvd_left _ _) (Nat.gcd_dvd_right _ _)), hp3⟩
        have h5 := hrm _ hg
        have h6 := Nat.le_of_dvd hup (Nat.gcd_dvd_left c.length v.length)
        omega

end Go.Proofs.Ytmephgemokngnaa
