/- Plain: the theorem of Fine and Wilf; roots of words that commute, are turned, are read from behind. -/
import Derived.Test.YtkbogiijbmjbmaaWord
namespace Go.Proofs.Ytkbogiijbmjbmaa
set_option linter.unusedVariables false

theorem per_mul {s : List UInt8} {g : Nat} (h : Per s g) (j : Nat) : ∀ t, j + t * g < s.length → s.getD j 0 = s.getD (j + t * g) 0
  | 0, _ => by rw [Nat.zero_mul, Nat.add_zero]
  | t + 1, ht => by
    have e : j + (t + 1) * g = j + t * g + g := by rw [Nat.succ_mul]; omega
    rw [e] at ht ⊢
    rw [per_mul h j t (by omega)]
    exact h (j + t * g) ht
theorem per_take {s : List UInt8} {g : Nat} (h : Per s g) (m : Nat) : Per (s.take m) g := by
  intro j hj
  rw [List.length_take] at hj
  rw [getD_take _ _ _ _ (by omega), getD_take _ _ _ _ (by omega)]
  exact h j (by omega)
/-- A period, and one of its first bytes that goes into it. -/
theorem per_extend {s : List UInt8} {g r : Nat} (hg : 0 < g) (h : Per s g) (hp : Per (s.take g) r) (hd : r ∣ g) (hle : g ≤ s.length) : Per s r := by
  intro j hj
  obtain ⟨c, hc⟩ := hd
  have hr : 0 < r := by rcases Nat.eq_zero_or_pos r with h0 | h0; (rw [h0, Nat.zero_mul] at hc; omega); exact h0
  have hj0 := Nat.mod_lt j hg
  have hdm : j % g + (j / g) * g = j := by rw [Nat.mul_comm, Nat.add_comm]; exact Nat.div_add_mod j g
  have hplen : (s.take g).length = g := by rw [List.length_take]; omega
  have e1 : s.getD j 0 = s.getD (j % g) 0 := by
    have := per_mul h (j % g) (j / g) (by omega)
    rw [hdm] at this; exact this.symm
  rw [e1]
  by_cases hlt : j % g + r < g
  · have e2 := per_mul h (j % g + r) (j / g) (by omega)
    rw [show j % g + r + j / g * g = j + r from by omega] at e2
    rw [← e2]
    have e3 := hp (j % g) (by rw [hplen]; exact hlt)
    rw [getD_take _ _ _ _ (by omega), getD_take _ _ _ _ hlt] at e3
    exact e3
  · have e2 := per_mul h (j % g + r - g) (j / g + 1) (by rw [Nat.succ_mul]; omega)
    rw [show j % g + r - g + (j / g + 1) * g = j + r from by rw [Nat.succ_mul]; omega] at e2
    rw [← e2]
    have hc1 : 0 < c := by rcases Nat.eq_zero_or_pos c with h0 | h0; (rw [h0, Nat.mul_zero] at hc; omega); exact h0
    have hcr : (c - 1) * r = g - r := by rw [Nat.sub_mul, Nat.one_mul, Nat.mul_comm c r, ← hc]
    have hrg : r ≤ g := by rw [hc]; exact Nat.le_mul_of_pos_right _ hc1
    have e3 := per_mul hp (j % g + r - g) (c - 1) (by rw [hcr, hplen]; omega)
    rw [hcr, getD_take _ _ _ _ (by omega), getD_take _ _ _ _ (by omega), show j % g + r - g + (g - r) = j % g from by omega] at e3
    exact e3.symm

theorem fine_wilf_lt : ∀ (N : Nat) (s : List UInt8) (p q : Nat), p + q ≤ N → 0 < q → q ≤ p → Per s p → Per s q → p + q - Nat.gcd p q ≤ s.length → Per s (Nat.gcd p q)
  | 0, s, p, q, hN, hq, hqp, _, _, _ => by omega
  | N + 1, s, p, q, hN, hq, hqp, hp, hq', hl => by
    by_cases e : p = q
    · rw [e, Nat.gcd_self]; exact hq'
    · have hg : Nat.gcd (p - q) q = Nat.gcd p q := by
        have h1 : p - q + q = p := by omega
        conv => rhs; rw [← h1]
        rw [Nat.gcd_add_self_left]
      have hgd1 : Nat.gcd p q ∣ q := Nat.gcd_dvd_right p q
      have hgd2 : Nat.gcd p q ∣ p - q := by rw [← hg]; exact Nat.gcd_dvd_left _ _
      have hgq := Nat.le_of_dvd hq hgd1
      have hgpq := Nat.le_of_dvd (by omega) hgd2
      have hp' : Per (s.take (s.length - q)) (p - q) := by
        intro j hj
        rw [List.length_take] at hj
        rw [getD_take _ _ _ _ (by omega), getD_take _ _ _ _ (by omega)]
        have h1 := hp j (by omega)
        have h2 := hq' (j + (p - q)) (by omega)
        rw [h1, h2]; congr 1; omega
      have hq2 := per_take hq' (s.length - q)
      have hlen : (s.take (s.length - q)).length = s.length - q := by rw [List.length_take]; omega
      have ih : Per (s.take (s.length - q)) (Nat.gcd p q) := by
        rcases Nat.le_total q (p - q) with h | h
        · have := fine_wilf_lt N (s.take (s.length - q)) (p - q) q (by omega) hq h hp' hq2 (by rw [hlen, hg]; omega)
          rwa [hg] at this
        · have := fine_wilf_lt N (s.take (s.length - q)) q (p - q) (by omega) (by omega) h hq2 hp' (by rw [hlen, Nat.gcd_comm, hg]; omega)
          rwa [Nat.gcd_comm, hg] at this
      refine per_extend hq hq' ?_ hgd1 (by omega)
      have := per_take ih q
      rw [List.take_take, Nat.min_eq_left (by omega)] at this
      exact this
theorem fine_wilf {s : List UInt8} {p q : Nat} (hp0 : 0 < p) (hq0 : 0 < q) (hp : Per s p) (hq : Per s q) (hl : p + q - Nat.gcd p q ≤ s.length) : Per s (Nat.gcd p q) := by
  rcases Nat.le_total q p with h | h
  · exact fine_wilf_lt _ s p q (Nat.le_refl _) hq0 h hp hq hl
  · have := fine_wilf_lt _ s q p (Nat.le_refl _) hp0 h hq hp (by rw [Nat.gcd_comm]; omega)
    rwa [Nat.gcd_comm] at this

theorem dper_le {s : List UInt8} {q : Nat} (hs : 0 < s.length) (h : DPer s q) : q ≤ s.length := Nat.le_of_dvd hs (Nat.dvd_of_mod_eq_zero h.2.1)
theorem dper_half {s : List UInt8} {q : Nat} (hs : 0 < s.length) (h : DPer s q) (hne : q ≠ s.length) : 2 * q ≤ s.length := by
  obtain ⟨c, hc⟩ := Nat.dvd_of_mod_eq_zero h.2.1
  rcases c with _ | _ | c
  · omega
  · rw [Nat.zero_add, Nat.mul_one] at hc; omega
  · have : q * (c + 1 + 1) = q * c + 2 * q := by rw [Nat.mul_add, Nat.mul_add]; omega
    omega
theorem root_dvd {s : List UInt8} {q : Nat} (hs : 0 < s.length) (h : DPer s q) : rootLen s ∣ q := by
  obtain ⟨hr, hrl, hmin⟩ := root_ok s hs
  by_cases h1 : q = s.length
  · rw [h1]; exact Nat.dvd_of_mod_eq_zero hr.2.1
  · by_cases h2 : rootLen s = s.length
    · have := hmin q h
      have := dper_le hs h
      omega
    · have a1 := dper_half hs h h1
      have a2 := dper_half hs hr h2
      have hp := fine_wilf hr.1 h.1 hr.2.2 h.2.2 (by omega)
      have hd : DPer s (Nat.gcd (rootLen s) q) := ⟨Nat.gcd_pos_of_pos_left _ hr.1, Nat.mod_eq_zero_of_dvd (Nat.dvd_trans (Nat.gcd_dvd_left _ _) (Nat.dvd_of_mod_eq_zero hr.2.1)), hp⟩
      have h3 := hmin _ hd
      have h4 := Nat.le_of_dvd hr.1 (Nat.gcd_dvd_left (rootLen s) q)
      have h5 : Nat.gcd (rootLen s) q = rootLen s := by omega
      rw [← h5]; exact Nat.gcd_dvd_right _ _

/-- A word is its root, so often. -/
theorem power_is : ∀ (m : Nat) (s : List UInt8) (p : Nat), s.length = m * p → Per s p → s = (List.replicate m (s.take p)).flatten
  | 0, s, p, h, _ => by
    rw [Nat.zero_mul] at h
    rw [List.eq_nil_of_length_eq_zero h]; rfl
  | m + 1, s, p, h, hp => by
    rw [Nat.succ_mul] at h
    have ih := power_is m (s.drop p) p (by rw [List.length_drop]; omega) (fun j hj => by
      rw [List.length_drop] at hj
      rw [getD_drop, getD_drop, ← Nat.add_assoc]
      exact hp (p + j) (by omega))
    rw [List.replicate_succ, List.flatten_cons]
    conv => lhs; rw [← List.take_append_drop p s]
    congr 1
    rw [ih]
    cases m with
    | zero => rfl
    | succ m =>
      congr 2
      refine ext_getD _ _ 0 (by rw [List.length_take, List.length_take, List.length_drop, h, Nat.succ_mul]; omega) fun j hj => ?_
      rw [List.length_take, List.length_drop, h, Nat.succ_mul] at hj
      rw [getD_take _ _ _ _ (by omega), getD_take _ _ _ _ (by omega), getD_drop, Nat.add_comm]
      exact (hp j (by rw [h, Nat.succ_mul]; omega)).symm
theorem dper_power {s : List UInt8} {p : Nat} (h : DPer s p) : s = (List.replicate (s.length / p) (s.take p)).flatten := by
  refine power_is _ _ _ ?_ h.2.2
  rw [Nat.div_mul_cancel (Nat.dvd_of_mod_eq_zero h.2.1)]
theorem flatten_replicate_add {α : Type} (x : List α) (m k : Nat) : (List.replicate (m + k) x).flatten = (List.replicate m x).flatten ++ (List.replicate k x).flatten := by
  rw [← List.replicate_append_replicate, List.flatten_append]
/-- LYNDON, SCHUETZENBERGER. -/
theorem commute_iff (a b : List UInt8) (ha : 0 < a.length) (hb : 0 < b.length) : a ++ b = b ++ a ↔ rootOf a = rootOf b := by
  obtain ⟨ra, la, ma⟩ := root_ok a ha
  obtain ⟨rb, lb, mb⟩ := root_ok b hb
  constructor
  · intro h
    have hw1 : Per (a ++ b) b.length := by
      intro j hj
      rw [List.length_append] at hj
      conv => rhs; rw [h]
      rw [getD_app_left _ _ _ _ (by omega), getD_app_right _ _ _ _ (by omega), Nat.add_sub_cancel]
    have hw2 : Per (a ++ b) a.length := by
      intro j hj
      rw [List.length_append] at hj
      conv => lhs; rw [h]
      rw [getD_app_left _ _ _ _ (by omega), getD_app_right _ _ _ _ (by omega), Nat.add_sub_cancel]
    have hg := fine_wilf ha hb hw2 hw1 (by rw [List.length_append]; omega)
    have hgp : 0 < Nat.gcd a.length b.length := Nat.gcd_pos_of_pos_left _ ha
    have hga : Nat.gcd a.length b.length ∣ a.length := Nat.gcd_dvd_left _ _
    have hgb : Nat.gcd a.length b.length ∣ b.length := Nat.gcd_dvd_right _ _
    generalize Nat.gcd a.length b.length = g at *
    have hla := Nat.le_of_dvd ha hga
    have hlb := Nat.le_of_dvd hb hgb
    have pa : DPer a g := ⟨hgp, Nat.mod_eq_zero_of_dvd hga, by
      have := per_take hg a.length
      rwa [List.take_append_of_le_length (Nat.le_refl _), List.take_length] at this⟩
    have pb : DPer b g := ⟨hgp, Nat.mod_eq_zero_of_dvd hgb, by
      rw [h] at hg
      have := per_take hg b.length
      rwa [List.take_append_of_le_length (Nat.le_refl _), List.take_length] at this⟩
    have ht : a.take g = b.take g := by
      have h1 : (a ++ b).take g = a.take g := List.take_append_of_le_length hla
      have h2 : (b ++ a).take g = b.take g := List.take_append_of_le_length hlb
      rw [← h1, h, h2]
    have da := root_dvd ha pa
    have db := root_dvd hb pb
    have xa : DPer b (rootLen a) := ⟨ra.1, Nat.mod_eq_zero_of_dvd (Nat.dvd_trans da hgb), per_extend hgp pb.2.2 (by rw [← ht]; exact per_take ra.2.2 g) da hlb⟩
    have xb : DPer a (rootLen b) := ⟨rb.1, Nat.mod_eq_zero_of_dvd (Nat.dvd_trans db hga), per_extend hgp pa.2.2 (by rw [ht]; exact per_take rb.2.2 g) db hla⟩
    have e : rootLen a = rootLen b := Nat.le_antisymm (ma _ xb) (mb _ xa)
    have hag := Nat.le_of_dvd hgp da
    unfold rootOf
    rw [← e]
    have h1 : (a.take g).take (rootLen a) = a.take (rootLen a) := by rw [List.take_take, Nat.min_eq_left hag]
    have h2 : (b.take g).take (rootLen a) = b.take (rootLen a) := by rw [List.take_take, Nat.min_eq_left hag]
    rw [← h1, ht, h2]
  · intro h
    have e1 := dper_power ra
    have e2 := dper_power rb
    have e3 : a.take (rootLen a) = b.take (rootLen b) := h
    rw [← e3] at e2
    generalize a.take (rootLen a) = x at *
    rw [e1, e2, ← flatten_replicate_add, ← flatten_replicate_add, Nat.add_comm]

/-- In the ring. -/
theorem per_ring {s : List UInt8} {p : Nat} (hs : 0 < s.length) (hd : p ∣ s.length) (hp : 0 < p) : Per s p ↔ ∀ i, s.getD (i % s.length) 0 = s.getD ((i + p) % s.length) 0 := by
  have hle := Nat.le_of_dvd hs hd
  constructor
  · intro h i
    have hi := Nat.mod_lt i hs
    rw [Nat.add_mod i p]
    by_cases hpn : p = s.length
    · rw [hpn, Nat.mod_self, Nat.add_zero, Nat.mod_mod]
    · rw [Nat.mod_eq_of_lt (show p < s.length from by omega)]
      by_cases hlt : i % s.length + p < s.length
      · rw [Nat.mod_eq_of_lt hlt]; exact h _ hlt
      · have e : (i % s.length + p) % s.length = i % s.length + p - s.length := by
          rw [Nat.mod_eq_sub_mod (by omega), Nat.mod_eq_of_lt (by omega)]
        rw [e]
        obtain ⟨c, hc⟩ := hd
        have hc1 : 0 < c := by rcases Nat.eq_zero_or_pos c with h0 | h0; (rw [h0, Nat.mul_zero] at hc; omega); exact h0
        have hcr : (c - 1) * p = s.length - p := by rw [Nat.sub_mul, Nat.one_mul, Nat.mul_comm c p, ← hc]
        have := per_mul h (i % s.length + p - s.length) (c - 1) (by rw [hcr]; omega)
        rw [hcr, show i % s.length + p - s.length + (s.length - p) = i % s.length from by omega] at this
        exact this.symm
  · intro h j hj
    have := h j
    rwa [Nat.mod_eq_of_lt (by omega), Nat.mod_eq_of_lt hj] at this
theorem turn_at (s : List UInt8) (k : Nat) (hk : k ≤ s.length) (i : Nat) (hi : i < s.length) : (s.drop k ++ s.take k).getD i 0 = s.getD ((i + k) % s.length) 0 := by
  by_cases h : i + k < s.length
  · rw [Nat.mod_eq_of_lt h, getD_app_left _ _ _ _ (by rw [List.length_drop]; omega), getD_drop, Nat.add_comm]
  · rw [getD_app_right _ _ _ _ (by rw [List.length_drop]; omega), List.length_drop, Nat.mod_eq_sub_mod (by omega), Nat.mod_eq_of_lt (by omega), getD_take _ _ _ _ (by omega)]
    congr 1; omega
theorem turn_length (s : List UInt8) (k : Nat) (hk : k ≤ s.length) : (s.drop k ++ s.take k).length = s.length := by
  rw [List.length_append, List.length_drop, List.length_take]; omega
theorem dper_turn {s : List UInt8} (hs : 0 < s.length) (k : Nat) (hk : k ≤ s.length) (p : Nat) : DPer (s.drop k ++ s.take k) p ↔ DPer s p := by
  unfold DPer
  rw [turn_length s k hk]
  refine and_congr_right fun h1 => and_congr_right fun h2 => ?_
  have hd := Nat.dvd_of_mod_eq_zero h2
  rw [per_ring (by rw [turn_length s k hk]; exact hs) (by rw [turn_length s k hk]; exact hd) h1, per_ring hs hd h1]
  have ht : ∀ i, (s.drop k ++ s.take k).getD (i % s.length) 0 = s.getD ((i + k) % s.length) 0 := fun i => by
    rw [turn_at s k hk _ (Nat.mod_lt _ hs), Nat.mod_add_mod]
  rw [turn_length s k hk]
  constructor
  · intro h i
    have := h (i + (s.length - k))
    rw [ht, ht, show i + (s.length - k) + k = i + s.length from by omega, show i + (s.length - k) + p + k = i + p + s.length from by omega, Nat.add_mod_right, Nat.add_mod_right] at this
    exact this
  · intro h i
    rw [ht, ht, show i + p + k = i + k + p from by omega]
    exact h (i + k)
theorem root_same {s t : List UInt8} (hs : 0 < s.length) (hl : t.length = s.length) (h : ∀ p, DPer t p ↔ DPer s p) : rootLen t = rootLen s ∧ expOf t = expOf s := by
  obtain ⟨h1, _, h3⟩ := root_ok s hs
  have e : rootLen t = rootLen s := rootLen_eq (by omega) ((h _).2 h1) fun q hq => h3 q ((h q).1 hq)
  exact ⟨e, by unfold expOf; rw [e, hl]⟩
theorem root_turn (s : List UInt8) (k : Nat) (hk : k ≤ s.length) : rootLen (s.drop k ++ s.take k) = rootLen s ∧ expOf (s.drop k ++ s.take k) = expOf s := by
  rcases Nat.eq_zero_or_pos s.length with h0 | hs
  · have : s = [] := List.eq_nil_of_length_eq_zero h0
    subst this
    simp
  · exact root_same hs (turn_length s k hk) (dper_turn hs k hk)
theorem per_rev {s : List UInt8} {p : Nat} (h : Per s p) : Per s.reverse p := by
  intro j hj
  rw [List.length_reverse] at hj
  rw [getD_reverse _ _ _ (by omega), getD_reverse _ _ _ hj]
  have := h (s.length - 1 - (j + p)) (by omega)
  rw [this]; congr 1; omega
theorem dper_rev (s : List UInt8) (p : Nat) : DPer s.reverse p ↔ DPer s p := by
  unfold DPer
  rw [List.length_reverse]
  refine and_congr_right fun _ => and_congr_right fun _ => ⟨fun h => ?_, per_rev⟩
  have := per_rev h
  rwa [List.reverse_reverse] at this
theorem root_rev (s : List UInt8) : rootOf s.reverse = (rootOf s).reverse ∧ expOf s.reverse = expOf s := by
  rcases Nat.eq_zero_or_pos s.length with h0 | hs
  · have : s = [] := List.eq_nil_of_length_eq_zero h0
    subst this
    exact ⟨rfl, rfl⟩
  · obtain ⟨e1, e2⟩ := root_same (t := s.reverse) hs (by simp) (dper_rev s)
    obtain ⟨h1, h2, _⟩ := root_ok s hs
    refine ⟨?_, e2⟩
    unfold rootOf
    rw [e1]
    refine ext_getD _ _ 0 (by simp) fun j hj => ?_
    rw [List.length_take, List.length_reverse] at hj
    rw [getD_take _ _ _ _ (by omega), getD_reverse _ _ _ (by omega), getD_reverse _ _ _ (by rw [List.length_take]; omega), List.length_take, Nat.min_eq_left h2, getD_take _ _ _ _ (by omega)]
    obtain ⟨c, hc⟩ := Nat.dvd_of_mod_eq_zero h1.2.1
    have hc1 : 0 < c := by rcases Nat.eq_zero_or_pos c with h0 | h0; (rw [h0, Nat.mul_zero] at hc; omega); exact h0
    have hcr : (c - 1) * rootLen s = s.length - rootLen s := by rw [Nat.sub_mul, Nat.one_mul, Nat.mul_comm c, ← hc]
    have := per_mul h1.2.2 (rootLen s - 1 - j) (c - 1) (by rw [hcr]; omega)
    rw [hcr, show rootLen s - 1 - j + (s.length - rootLen s) = s.length - 1 - j from by omega] at this
    exact this.symm
theorem root_length (s : List UInt8) : (rootOf s).length = rootLen s := by
  unfold rootOf
  rw [List.length_take]
  rcases Nat.eq_zero_or_pos s.length with h0 | hs
  · have : s = [] := List.eq_nil_of_length_eq_zero h0
    subst this
    rfl
  · have := (root_ok s hs).2.1; omega

end Go.Proofs.Ytkbogiijbmjbmaa
