/- Plain: the phrases of a text (Lempel, Ziv), and that later bytes change no earlier phrase. -/
import Derived.Test.YtjdmfpoiniocmaaPlain
namespace Go.Proofs.Ytjdmfpoiniocmaa
set_option linter.unusedVariables false

abbrev PhS := List (Int × UInt8) × List (List UInt8) × Nat

/-- Is text j longer than text b, and does it begin what is left? -/
def hitP (T : List (List UInt8)) (r : List UInt8) (b j : Nat) : Bool := decide ((T.getD b []).length < (T.getD j []).length) && (T.getD j []).isPrefixOf r
/-- The best one of the first k. -/
def bestN (T : List (List UInt8)) (r : List UInt8) : Nat → Nat
  | 0 => 0
  | k + 1 => if hitP T r (bestN T r k) k then k else bestN T r k
theorem bestN_lt (T : List (List UInt8)) (r : List UInt8) (h : 0 < T.length) : ∀ k, k ≤ T.length → bestN T r k < T.length
  | 0, _ => h
  | k + 1, hk => by
    rw [bestN]
    split
    · omega
    · exact bestN_lt T r h k (by omega)
theorem bestN_prefix (T : List (List UInt8)) (r : List UInt8) (h : T.getD 0 [] = []) : ∀ k, T.getD (bestN T r k) [] <+: r
  | 0 => by rw [bestN, h]; exact List.nil_prefix
  | k + 1 => by
    rw [bestN]
    split
    · rename_i hh
      unfold hitP at hh
      rw [Bool.and_eq_true] at hh
      exact List.isPrefixOf_iff_prefix.1 hh.2
    · exact bestN_prefix T r h k
theorem bestN_max (T : List (List UInt8)) (r : List UInt8) : ∀ k j, j < k → T.getD j [] <+: r → (T.getD j []).length ≤ (T.getD (bestN T r k) []).length
  | k + 1, j, hj, hp => by
    rw [bestN]
    by_cases hh : hitP T r (bestN T r k) k = true
    · rw [if_pos hh]
      by_cases e : j = k
      · rw [e]; exact Nat.le_refl _
      · have := bestN_max T r k j (by omega) hp
        unfold hitP at hh
        rw [Bool.and_eq_true] at hh
        have := of_decide_eq_true hh.1
        omega
    · rw [if_neg hh]
      by_cases e : j = k
      · subst e
        unfold hitP at hh
        rw [Bool.and_eq_true] at hh
        have h2 : ¬ (T.getD (bestN T r j) []).length < (T.getD j []).length := fun h => hh ⟨decide_eq_true h, List.isPrefixOf_iff_prefix.2 hp⟩
        omega
      · exact bestN_max T r k j (by omega) hp
theorem bestN_congr (T : List (List UInt8)) (r r' : List UInt8) : ∀ k, (∀ j, j < k → (T.getD j []).isPrefixOf r = (T.getD j []).isPrefixOf r') → bestN T r k = bestN T r' k
  | 0, _ => rfl
  | k + 1, h => by
    rw [bestN, bestN, bestN_congr T r r' k fun j hj => h j (by omega)]
    have : hitP T r (bestN T r' k) k = hitP T r' (bestN T r' k) k := by unfold hitP; rw [h k (by omega)]
    rw [this]

def bestOf (s : List UInt8) (x : PhS) : Nat := bestN x.2.1 (s.drop x.2.2) x.2.1.length
def lenOf (s : List UInt8) (x : PhS) : Nat := (x.2.1.getD (bestOf s x) []).length
def goesP (s : List UInt8) (x : PhS) : Prop := x.2.2 + lenOf s x < s.length
instance (s : List UInt8) (x : PhS) : Decidable (goesP s x) := by unfold goesP; infer_instance
def nextP (s : List UInt8) (x : PhS) : PhS := (x.1 ++ [(((bestOf s x : Nat) : Int), s.getD (x.2.2 + lenOf s x) 0)], x.2.1 ++ [(s.drop x.2.2).take (lenOf s x + 1)], x.2.2 + lenOf s x + 1)
def stepP (s : List UInt8) (x : PhS) : PhS := if goesP s x then nextP s x else x
def phS (s : List UInt8) : Nat → PhS
  | 0 => ([], [[]], 0)
  | k + 1 => stepP s (phS s k)
/-- The phrases of a text: at its end. -/
def putP (s : List UInt8) : PhS := phS s s.length

/-- What holds at every step. -/
structure InvP (s : List UInt8) (x : PhS) : Prop where
  len : x.2.1.length = x.1.length + 1
  zero : x.2.1.getD 0 [] = []
  at_le : x.2.2 ≤ s.length
  closed : ∀ t ∈ x.2.1, ∀ p, p <+: t → p ∈ x.2.1
  nodup : x.2.1.Nodup
  flat : x.2.1.flatten = s.take x.2.2
  tells : ∀ j, j < x.1.length → 0 ≤ (x.1.getD j (0, 0)).1 ∧ (x.1.getD j (0, 0)).1 ≤ (j : Int) ∧ x.2.1.getD (j + 1) [] = x.2.1.getD ((x.1.getD j (0, 0)).1).toNat [] ++ [(x.1.getD j (0, 0)).2]
  many : x.1.length ≤ x.2.2

theorem mem_getD {α : Type} {l : List α} {t d : α} (h : t ∈ l) : ∃ j, j < l.length ∧ l.getD j d = t := by
  obtain ⟨j, hj, e⟩ := List.mem_iff_getElem.1 h
  exact ⟨j, hj, by rw [getD_some _ _ _ hj]; exact e⟩
theorem getD_mem' {α : Type} {l : List α} {d : α} {j : Nat} (h : j < l.length) : l.getD j d ∈ l := by
  rw [getD_some _ _ _ h]; exact List.getElem_mem h

/-- The longest one. -/
theorem best_longest {s : List UInt8} {x : PhS} (h : InvP s x) {t : List UInt8} (ht : t ∈ x.2.1) (hp : t <+: s.drop x.2.2) : t.length ≤ lenOf s x := by
  obtain ⟨j, hj, rfl⟩ := mem_getD (d := []) ht
  exact bestN_max _ _ _ j hj hp
theorem best_is {s : List UInt8} {x : PhS} (h : InvP s x) : x.2.1.getD (bestOf s x) [] = (s.drop x.2.2).take (lenOf s x) := by
  have := bestN_prefix x.2.1 (s.drop x.2.2) h.zero x.2.1.length
  exact List.prefix_iff_eq_take.1 this
theorem best_lt {s : List UInt8} {x : PhS} (h : InvP s x) : bestOf s x < x.2.1.length := bestN_lt _ _ (by rw [h.len]; omega) _ (Nat.le_refl _)
theorem lenOf_le {s : List UInt8} {x : PhS} (h : InvP s x) : x.2.2 + lenOf s x ≤ s.length := by
  have := (bestN_prefix x.2.1 (s.drop x.2.2) h.zero x.2.1.length).length_le
  rw [List.length_drop] at this
  have h1 := h.at_le
  have : lenOf s x ≤ s.length - x.2.2 := this
  omega

theorem le_flatten {α : Type} : ∀ {T : List (List α)} {t : List α}, t ∈ T → t.length ≤ T.flatten.length
  | u :: T, t, h => by
    rw [List.flatten_cons, List.length_append]
    rcases List.mem_cons.1 h with rfl | h
    · omega
    · have := le_flatten h; omega
theorem text_le {s : List UInt8} {x : PhS} (h : InvP s x) (j : Nat) : (x.2.1.getD j []).length ≤ s.length := by
  rcases Nat.lt_or_ge j x.2.1.length with hj | hj
  · have := le_flatten (getD_mem' (d := []) hj)
    rw [h.flat, List.length_take] at this
    omega
  · rw [getD_none _ _ _ hj]; simp

theorem inv_zero (s : List UInt8) : InvP s ([], [[]], 0) := by
  refine ⟨rfl, rfl, Nat.zero_le _, ?_, by simp, by simp, by simp, Nat.zero_le _⟩
  intro t ht p hp
  simp at ht
  subst ht
  simp [List.prefix_nil.1 hp]
/-- The new text. -/
theorem new_text {s : List UInt8} {x : PhS} (h : InvP s x) (hg : goesP s x) : (s.drop x.2.2).take (lenOf s x + 1) = x.2.1.getD (bestOf s x) [] ++ [s.getD (x.2.2 + lenOf s x) 0] := by
  have hg' : x.2.2 + lenOf s x < s.length := hg
  rw [take_succ_getD _ _ 0 (by rw [List.length_drop]; omega), ← best_is h, getD_drop]
theorem new_not {s : List UInt8} {x : PhS} (h : InvP s x) (hg : goesP s x) : (s.drop x.2.2).take (lenOf s x + 1) ∉ x.2.1 := by
  intro hm
  have hg' : x.2.2 + lenOf s x < s.length := hg
  have := best_longest h hm (List.take_prefix _ _)
  rw [List.length_take, List.length_drop] at this
  omega
theorem inv_next {s : List UInt8} {x : PhS} (h : InvP s x) (hg : goesP s x) : InvP s (nextP s x) := by
  have hg' : x.2.2 + lenOf s x < s.length := hg
  have hl := h.len
  have hnt := new_text h hg
  have hnn := new_not h hg
  have hbl := best_lt h
  refine ⟨by simp [nextP, h.len], ?_, by show x.2.2 + lenOf s x + 1 ≤ _; omega, ?_, ?_, ?_, ?_, ?_⟩
  · show (x.2.1 ++ _).getD 0 [] = []
    rw [getD_app_left _ _ _ _ (by omega)]; exact h.zero
  · intro t ht p hp
    show p ∈ x.2.1 ++ [_]
    have ht : t ∈ x.2.1 ++ [(s.drop x.2.2).take (lenOf s x + 1)] := ht
    rw [List.mem_append] at ht ⊢
    rcases ht with ht | ht
    · exact .inl (h.closed t ht p hp)
    · rw [List.mem_singleton] at ht
      subst ht
      rw [hnt] at hp
      rcases List.prefix_concat_iff.1 hp with hp | hp
      · refine .inr ?_
        rw [List.mem_singleton, hnt]; exact hp
      · exact .inl (h.closed _ (getD_mem' hbl) p hp)
  · show (x.2.1 ++ [_]).Nodup
    rw [List.nodup_append]
    exact ⟨h.nodup, by simp, fun a ha b hb e => by rw [List.mem_singleton] at hb; subst hb; subst e; exact hnn ha⟩
  · show (x.2.1 ++ [_]).flatten = s.take (x.2.2 + lenOf s x + 1)
    rw [List.flatten_append, h.flat, List.flatten_cons, List.flatten_nil, List.append_nil, Nat.add_assoc]
    exact List.take_add.symm
  · intro j hj
    have hj : j < (x.1 ++ [((bestOf s x : Int), s.getD (x.2.2 + lenOf s x) 0)]).length := hj
    rw [List.length_append, List.length_singleton] at hj
    show 0 ≤ ((x.1 ++ [((bestOf s x : Int), s.getD (x.2.2 + lenOf s x) 0)]).getD j (0, 0)).1 ∧ _ ∧ (x.2.1 ++ [_]).getD (j + 1) [] = (x.2.1 ++ [_]).getD ((x.1 ++ [((bestOf s x : Int), s.getD (x.2.2 + lenOf s x) 0)]).getD j (0, 0)).1.toNat [] ++ [((x.1 ++ [((bestOf s x : Int), s.getD (x.2.2 + lenOf s x) 0)]).getD j (0, 0)).2]
    by_cases e : j = x.1.length
    · subst e
      have e1 : (x.1 ++ [((bestOf s x : Int), s.getD (x.2.2 + lenOf s x) 0)]).getD x.1.length (0, 0) = ((bestOf s x : Int), s.getD (x.2.2 + lenOf s x) 0) := by
        rw [getD_app_right _ _ _ _ (Nat.le_refl _), Nat.sub_self]; rfl
      refine ⟨?_, ?_, ?_⟩
      · rw [e1]; exact Int.natCast_nonneg _
      · show ((x.1 ++ [((bestOf s x : Int), s.getD (x.2.2 + lenOf s x) 0)]).getD x.1.length (0, 0)).1 ≤ _
        rw [e1]; show (bestOf s x : Int) ≤ _; omega
      · rw [e1, getD_app_right _ _ _ _ (by omega), show x.1.length + 1 - x.2.1.length = 0 from by omega, Int.toNat_natCast, getD_app_left _ _ _ _ hbl]
        exact hnt
    · have e1 : (x.1 ++ [((bestOf s x : Int), s.getD (x.2.2 + lenOf s x) 0)]).getD j (0, 0) = x.1.getD j (0, 0) := getD_app_left _ _ _ _ (by omega)
      obtain ⟨t1, t2, t3⟩ := h.tells j (by omega)
      refine ⟨?_, ?_, ?_⟩
      · rw [e1]; exact t1
      · show ((x.1 ++ [((bestOf s x : Int), s.getD (x.2.2 + lenOf s x) 0)]).getD j (0, 0)).1 ≤ _
        rw [e1]; exact t2
      · rw [e1, getD_app_left _ _ _ _ (by omega), getD_app_left _ _ _ _ (by omega)]
        exact t3
  · show (x.1 ++ [_]).length ≤ x.2.2 + lenOf s x + 1
    have := h.many
    simp; omega
theorem inv_step {s : List UInt8} {x : PhS} (h : InvP s x) : InvP s (stepP s x) := by
  unfold stepP
  split
  · exact inv_next h ‹_›
  · exact h
theorem inv_phS (s : List UInt8) : ∀ k, InvP s (phS s k)
  | 0 => inv_zero s
  | k + 1 => inv_step (inv_phS s k)
/-- As long as it goes. -/
theorem phS_at (s : List UInt8) : ∀ k, (∀ j, j < k → goesP s (phS s j)) → k ≤ (phS s k).2.2 ∧ (phS s k).1.length = k
  | 0, _ => ⟨Nat.zero_le _, rfl⟩
  | k + 1, h => by
    obtain ⟨h1, h2⟩ := phS_at s k fun j hj => h j (by omega)
    rw [phS, stepP, if_pos (h k (by omega))]
    exact ⟨by show k + 1 ≤ (phS s k).2.2 + _ + 1; omega, by show ((phS s k).1 ++ [_]).length = _; simp [h2]⟩
theorem phS_stays (s : List UInt8) (k : Nat) (h : ¬ goesP s (phS s k)) : ∀ m, k ≤ m → phS s m = phS s k
  | 0, hm => by rw [show k = 0 from by omega]
  | m + 1, hm => by
    by_cases e : k = m + 1
    · rw [e]
    · have ih := phS_stays s k h m (by omega)
      rw [phS, ih, stepP, if_neg h]
/-- The loop's end. -/
theorem phS_end (s : List UInt8) (k : Nat) (hg : ∀ j, j < k → goesP s (phS s j)) (h : ¬ goesP s (phS s k)) : phS s k = putP s := by
  have := (phS_at s k hg).1
  have h2 := (inv_phS s k).at_le
  exact (phS_stays s k h s.length (by omega)).symm
/-- It ends somewhere. -/
theorem phS_ends (s : List UInt8) : ∀ m k, s.length - k ≤ m → (∀ j, j < k → goesP s (phS s j)) → ∃ n, (∀ j, j < n → goesP s (phS s j)) ∧ ¬ goesP s (phS s n)
  | m, k, hm, hg => by
    by_cases h : goesP s (phS s k)
    · match m with
      | 0 =>
        have := (phS_at s k hg).1
        have h2 : (phS s k).2.2 + lenOf s (phS s k) < s.length := h
        omega
      | m + 1 =>
        have h1 := (phS_at s k hg).1
        have h2 : (phS s k).2.2 + lenOf s (phS s k) < s.length := h
        exact phS_ends s m (k + 1) (by omega) fun j hj => by
          by_cases e : j = k
          · rw [e]; exact h
          · exact hg j (by omega)
    · exact ⟨k, hg, h⟩
theorem putP_ends (s : List UInt8) : ∃ n, (∀ j, j < n → goesP s (phS s j)) ∧ ¬ goesP s (phS s n) ∧ putP s = phS s n ∧ (putP s).1.length = n := by
  obtain ⟨n, h1, h2⟩ := phS_ends s s.length 0 (by omega) (by simp)
  have := phS_end s n h1 h2
  exact ⟨n, h1, h2, this.symm, by rw [← this]; exact (phS_at s n h1).2⟩
theorem putP_inv (s : List UInt8) : InvP s (putP s) := inv_phS s _

/-- A step with more bytes behind. -/
theorem step_more {a b : List UInt8} {x : PhS} (h : InvP a x) (hg : goesP a x) : bestOf (a ++ b) x = bestOf a x ∧ stepP (a ++ b) x = stepP a x := by
  have hg' : x.2.2 + lenOf a x < a.length := hg
  have hd : (a ++ b).drop x.2.2 = a.drop x.2.2 ++ b := by rw [List.drop_append_of_le_length (by omega)]
  have hb : bestOf (a ++ b) x = bestOf a x := by
    unfold bestOf
    refine bestN_congr _ _ _ _ fun j hj => ?_
    rw [hd, Bool.eq_iff_iff, List.isPrefixOf_iff_prefix, List.isPrefixOf_iff_prefix]
    refine ⟨fun hp => ?_, fun hp => hp.trans (List.prefix_append _ _)⟩
    rcases Nat.lt_or_ge (a.drop x.2.2).length (x.2.1.getD j []).length with hlt | hge
    · have hr : a.drop x.2.2 <+: x.2.1.getD j [] := List.prefix_of_prefix_length_le (List.prefix_append _ _) hp (by omega)
      have hm := h.closed _ (getD_mem' (d := []) hj) _ hr
      have := best_longest h hm (List.prefix_refl _)
      rw [List.length_drop] at this
      omega
    · exact List.prefix_of_prefix_length_le hp (List.prefix_append _ _) hge
  have hl : lenOf (a ++ b) x = lenOf a x := by unfold lenOf; rw [hb]
  refine ⟨hb, ?_⟩
  unfold stepP
  rw [if_pos hg, if_pos (by unfold goesP; rw [hl, List.length_append]; omega)]
  unfold nextP
  rw [hb, hl, hd, getD_app_left _ _ _ _ hg', List.take_append_of_le_length (by rw [List.length_drop]; omega)]
theorem phS_more (a b : List UInt8) : ∀ k, (∀ j, j < k → goesP a (phS a j)) → phS (a ++ b) k = phS a k
  | 0, _ => rfl
  | k + 1, h => by
    rw [phS, phS, phS_more a b k fun j hj => h j (by omega), (step_more (inv_phS a k) (h k (by omega))).2]
theorem phS_grows (s : List UInt8) (k : Nat) : ∀ m, k ≤ m → ∃ r, (phS s m).1 = (phS s k).1 ++ r
  | 0, hm => ⟨[], by rw [show k = 0 from by omega, List.append_nil]⟩
  | m + 1, hm => by
    by_cases e : k = m + 1
    · exact ⟨[], by rw [e, List.append_nil]⟩
    · obtain ⟨r, hr⟩ := phS_grows s k m (by omega)
      rw [phS, stepP]
      split
      · exact ⟨r ++ [_], by show (phS s m).1 ++ [_] = _; rw [hr, List.append_assoc]⟩
      · exact ⟨r, hr⟩
/-- PhraseFront, plain. -/
theorem phrases_front (a b : List UInt8) : ∃ r, (putP (a ++ b)).1 = (putP a).1 ++ r := by
  obtain ⟨n, h1, h2, h3, h4⟩ := putP_ends a
  have := phS_more a b n h1
  rw [h3, ← this]
  have hn := (phS_at a n h1).1
  have hn2 := (inv_phS a n).at_le
  exact phS_grows (a ++ b) n _ (by rw [List.length_append]; omega)

end Go.Proofs.Ytjdmfpoiniocmaa
