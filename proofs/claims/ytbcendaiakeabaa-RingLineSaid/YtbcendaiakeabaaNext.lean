/- Plain: the next Lyndon word of so many bytes (Duval). -/
import Derived.Test.YtbcendaiakeabaaDuval
namespace Go.Proofs.Ytbcendaiakeabaa
set_option linter.unusedVariables false

theorem first_not {P : Nat → Prop} : ∀ k : Nat, (∀ x, x < k → P x) ∨ ∃ m, m < k ∧ ¬ P m ∧ ∀ x, x < m → P x
  | 0 => .inl fun x h => by omega
  | k + 1 => by
    rcases first_not (P := P) k with h | ⟨m, h1, h2, h3⟩
    · by_cases hk : P k
      · exact .inl fun x hx => by
          by_cases e : x = k
          · rw [e]; exact hk
          · exact h x (by omega)
      · exact .inr ⟨k, by omega, hk, h⟩
    · exact .inr ⟨m, by omega, h2, h3⟩
theorem take_same {l w : List UInt8} {m : Nat} (hl : m ≤ l.length) (hw : m ≤ w.length) (h : ∀ x, x < m → l.getD x 0 = w.getD x 0) : l.take m = w.take m := by
  have h1 : (l.take m).length = m := by rw [List.length_take]; omega
  have h2 := take_eq_getD (l.take m) w (by omega) fun x hx => by
    rw [h1] at hx
    rw [getD_takeB _ _ _ hx]; exact h x hx
  rwa [h1] at h2
theorem dif_at {l w : List UInt8} {m : Nat} (hl : m < l.length) (hw : m < w.length) (h : ∀ x, x < m → l.getD x 0 = w.getD x 0) (hd : l.getD m 0 < w.getD m 0) : Dif l w := by
  have e1 := split_getD l m hl
  have e2 := split_getD w m hw
  rw [take_same (by omega) (by omega) h] at e1
  exact ⟨_, _, _, _, _, e1, e2, hd⟩

/-- A greater Lyndon word goes above the repeated word at its first other byte. -/
theorem next_up {s w : List UInt8} (hs : Lyn s) (hw : Lyn w) (h : llt s w = true) : ∃ m, m < w.length ∧ (∀ x, x < m → w.getD x 0 = s.getD (x % s.length) 0) ∧ s.getD (m % s.length) 0 < w.getD m 0 := by
  have hp : 0 < s.length := List.length_pos_iff.2 hs.1
  have hno : ∀ {a b : List UInt8}, llt a b = true → llt b a = true → False := fun h k => by
    have := llt_trans h k
    rw [llt_irrefl] at this; cases this
  have hno2 : ∀ {a b : List UInt8}, llt a b = true → lle b a → False := fun h k => by unfold lle at k; rw [h] at k; cases k
  have hcut : s.length < w.length → (∀ x, x < s.length → w.getD x 0 = s.getD (x % s.length) 0) → llt w (w.drop s.length) = true := fun hlt he => by
    have e : w = s ++ w.drop s.length := by
      have : w.take s.length = s := by
        rw [take_same (by omega) (Nat.le_refl _) (w := s) fun x hx => by rw [he x hx, Nat.mod_eq_of_lt hx], List.take_of_length_le (Nat.le_refl _)]
      conv => lhs; rw [← List.take_append_drop s.length w, this]
    refine hw.2 s _ e hs.1 fun h0 => ?_
    have := congrArg List.length h0
    rw [List.length_drop, List.length_nil] at this; omega
  rcases first_not (P := fun x => w.getD x 0 = s.getD (x % s.length) 0) w.length with ha | ⟨m, hm, hne, hb⟩
  · exfalso
    by_cases hlt : s.length < w.length
    · have h1 := hcut hlt fun x hx => ha x (by omega)
      have h2 : w.drop s.length = w.take (w.drop s.length).length := take_eq_getD _ _ (by rw [List.length_drop]; omega) fun x hx => by
        rw [List.length_drop] at hx
        rw [getD_dropB, ha (s.length + x) (by omega), ha x (by omega), Nat.add_mod_left]
      refine hno2 h1 ?_
      rw [h2]
      have := lle_prefix (w.take (w.drop s.length).length) (w.drop (w.drop s.length).length)
      rwa [List.take_append_drop] at this
    · have h2 : w = s.take w.length := take_eq_getD _ _ (by omega) fun x hx => by rw [ha x hx, Nat.mod_eq_of_lt (by omega)]
      refine hno2 h ?_
      rw [h2]
      have := lle_prefix (s.take w.length) (s.drop w.length)
      rwa [List.take_append_drop] at this
  · rcases u8_tri (w.getD m 0) (s.getD (m % s.length) 0) with hl | he | hg
    · exfalso
      by_cases hms : m < s.length
      · rw [Nat.mod_eq_of_lt hms] at hl
        exact hno h (dif_at hm hms (fun x hx => by rw [hb x hx, Nat.mod_eq_of_lt (by omega)]) hl).lt
      · have h1 := hcut (by omega) fun x hx => hb x (by omega)
        refine hno h1 (dif_at (m := m - s.length) (by rw [List.length_drop]; omega) (by omega) (fun x hx => ?_) ?_).lt
        · rw [getD_dropB, hb (s.length + x) (by omega), hb x (by omega), Nat.add_mod_left]
        · rw [getD_dropB, show s.length + (m - s.length) = m from by omega, hb (m - s.length) (by omega)]
          rw [mod_back (y := m) (p := s.length) (by omega)] at hl
          exact hl
    · exact absurd he hne
    · exact ⟨m, hm, hb, hg⟩

/-- What Next makes: the repeated word up to the last byte that can grow, and that byte grown. -/
structure NextAt (s : List UInt8) (n : Nat) (last : UInt8) (p : List UInt8) : Prop where
  fits : p.length < n
  per : ∀ x, x < p.length → p.getD x 0 = s.getD (x % s.length) 0
  can : s.getD (p.length % s.length) 0 < last
  rest : ∀ x, p.length < x → x < n → s.getD (x % s.length) 0 = last
theorem u8_succ {c l : UInt8} (h : c < l) : c < c + 1 ∧ ∀ y, c < y → c + 1 ≤ y := by
  have h1 : c.toNat + 1 < 256 := by
    have := UInt8.lt_iff_toNat_lt.1 h
    have := l.toNat_lt
    omega
  have h2 : (c + 1).toNat = c.toNat + 1 := by rw [UInt8.toNat_add, show (1 : UInt8).toNat = 1 from rfl]; omega
  refine ⟨by rw [UInt8.lt_iff_toNat_lt, h2]; omega, fun y hy => ?_⟩
  rw [UInt8.le_iff_toNat_le, h2]
  exact UInt8.lt_iff_toNat_lt.1 hy
theorem NextAt.lyn {s p : List UInt8} {n : Nat} {last : UInt8} (hs : Lyn s) (h : NextAt s n last p) : Lyn (p ++ [s.getD (p.length % s.length) 0 + 1]) ∧ llt s (p ++ [s.getD (p.length % s.length) 0 + 1]) = true :=
  lyn_grow hs _ p.length p (Nat.le_refl _) h.per (u8_succ h.can).1
theorem NextAt.least {s p w : List UInt8} {n : Nat} {last : UInt8} (hs : Lyn s) (h : NextAt s n last p) (hw : Lyn w) (hl : llt s w = true) (hn : w.length ≤ n) (ha : ∀ y ∈ w, y ≤ last) :
    lle (p ++ [s.getD (p.length % s.length) 0 + 1]) w := by
  obtain ⟨m, hm, hb, hg⟩ := next_up hs hw hl
  have hwm : w.getD m 0 ≤ last := ha _ (by
    rw [List.getD_eq_getElem?_getD, List.getElem?_eq_getElem hm]
    exact List.getElem_mem hm)
  rcases Nat.lt_trichotomy m p.length with hlt | heq | hgt
  · refine lle_of_lt (dif_at (m := m) (by rw [List.length_append]; omega) hm (fun x hx => ?_) ?_).lt
    · rw [getD_appL _ _ _ (by omega), h.per x (by omega), hb x hx]
    · rw [getD_appL _ _ _ hlt, h.per m hlt]; exact hg
  · subst heq
    have e1 := split_getD w p.length hm
    have e2 : w.take p.length = p := by
      rw [take_same (by omega) (Nat.le_refl _) (w := p) fun x hx => by rw [hb x hx, h.per x hx], List.take_of_length_le (Nat.le_refl _)]
    rw [e2] at e1
    have hle := (u8_succ h.can).2 _ hg
    rcases u8_tri (s.getD (p.length % s.length) 0 + 1) (w.getD p.length 0) with h1 | h1 | h1
    · exact lle_of_lt (Dif.lt ⟨p, _, _, [], _, rfl, e1, h1⟩)
    · rw [e1, ← h1]
      have := lle_prefix (p ++ [s.getD (p.length % s.length) 0 + 1]) (w.drop (p.length + 1))
      simpa using this
    · rw [UInt8.lt_iff_toNat_lt] at h1
      rw [UInt8.le_iff_toNat_le] at hle
      omega
  · rw [h.rest m hgt (by omega), UInt8.lt_iff_toNat_lt] at hg
    rw [UInt8.le_iff_toNat_le] at hwm
    omega
theorem next_none {s w : List UInt8} {n : Nat} {last : UInt8} (hs : Lyn s) (h : ∀ x, x < n → s.getD (x % s.length) 0 = last) (hw : Lyn w) (hl : llt s w = true) (hn : w.length ≤ n) (ha : ∀ y ∈ w, y ≤ last) : False := by
  obtain ⟨m, hm, hb, hg⟩ := next_up hs hw hl
  have hwm : w.getD m 0 ≤ last := ha _ (by
    rw [List.getD_eq_getElem?_getD, List.getElem?_eq_getElem hm]
    exact List.getElem_mem hm)
  rw [h m (by omega), UInt8.lt_iff_toNat_lt] at hg
  rw [UInt8.le_iff_toNat_le] at hwm
  omega

end Go.Proofs.Ytbcendaiakeabaa
