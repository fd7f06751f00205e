/- Plain: how Duval finds the words: what holds at each step. -/
import Derived.Test.YtmephgemokngnaaLyndon
namespace Go.Proofs.Ytmephgemokngnaa
set_option linter.unusedVariables false

theorem getD_dropB (l : List UInt8) (a x : Nat) : (l.drop a).getD x 0 = l.getD (a + x) 0 := by
  rw [List.getD_eq_getElem?_getD, List.getD_eq_getElem?_getD, List.getElem?_drop]
theorem getD_takeB (l : List UInt8) (p x : Nat) (h : x < p) : (l.take p).getD x 0 = l.getD x 0 := by
  rw [List.getD_eq_getElem?_getD, List.getD_eq_getElem?_getD, List.getElem?_take, if_pos h]
theorem getD_appL (l m : List UInt8) (x : Nat) (h : x < l.length) : (l ++ m).getD x 0 = l.getD x 0 := by
  rw [List.getD_eq_getElem?_getD, List.getD_eq_getElem?_getD, List.getElem?_append_left h]
theorem split_getD (l : List UInt8) (r : Nat) (h : r < l.length) : l = l.take r ++ l.getD r 0 :: l.drop (r + 1) := by
  conv => lhs; rw [← List.take_append_drop r l]
  rw [List.drop_eq_getElem_cons h]
  congr 2
  rw [List.getD_eq_getElem?_getD, List.getElem?_eq_getElem h]; rfl
theorem take_eq_getD (l w : List UInt8) (h : l.length ≤ w.length) (hx : ∀ x, x < l.length → l.getD x 0 = w.getD x 0) : l = w.take l.length := by
  refine List.ext_getElem (by rw [List.length_take]; omega) fun x h1 h2 => ?_
  have := hx x h1
  rw [List.getD_eq_getElem?_getD, List.getElem?_eq_getElem h1, List.getD_eq_getElem?_getD, List.getElem?_eq_getElem (by omega)] at this
  rw [List.getElem_take]; exact this
/-- A text that repeats a Lyndon word, and then a greater byte: one Lyndon word. -/
theorem lyn_grow {w : List UInt8} (hw : Lyn w) (c : UInt8) : ∀ (N : Nat) (l : List UInt8), l.length ≤ N → (∀ x, x < l.length → l.getD x 0 = w.getD (x % w.length) 0) → w.getD (l.length % w.length) 0 < c → Lyn (l ++ [c]) ∧ llt w (l ++ [c]) = true := by
  have hp : 0 < w.length := List.length_pos_iff.2 hw.1
  intro N
  induction N with
  | zero =>
    intro l hl _ hc
    have e : l = [] := List.eq_nil_of_length_eq_zero (by omega)
    subst e
    have e2 : w = [] ++ w.getD 0 0 :: w.drop 1 := split_getD w 0 hp
    rw [List.length_nil, Nat.zero_mod] at hc
    refine ⟨lyn_one c, ?_⟩
    rw [e2]; exact Dif.lt ⟨[], _, c, w.drop 1, [], rfl, rfl, hc⟩
  | succ N ih =>
    intro l hl hx hc
    by_cases hlt : l.length < w.length
    · rw [Nat.mod_eq_of_lt hlt] at hc
      have e1 : l = w.take l.length := take_eq_getD l w (by omega) fun x h => by rw [hx x h, Nat.mod_eq_of_lt (by omega)]
      have e2 : w = w.take l.length ++ w.getD l.length 0 :: w.drop (l.length + 1) := split_getD w l.length hlt
      rw [← e1] at e2
      refine ⟨lyn_raise (by rw [← e2]; exact hw) hc, ?_⟩
      exact Dif.lt ⟨l, _, c, _, [], e2, rfl, hc⟩
    · have e1 : l = w ++ l.drop w.length := by
        have : l.take w.length = w := by
          have h1 := take_eq_getD (l.take w.length) w (by rw [List.length_take]; omega) fun x h => by
            rw [List.length_take] at h
            rw [getD_takeB _ _ _ (by omega), hx x (by omega), Nat.mod_eq_of_lt (by omega)]
          rw [List.length_take, Nat.min_eq_left (by omega), List.take_of_length_le (Nat.le_refl _)] at h1
          exact h1
        conv => lhs; rw [← List.take_append_drop w.length l, this]
      have hdl : (l.drop w.length).length = l.length - w.length := List.length_drop
      obtain ⟨h1, h2⟩ := ih (l.drop w.length) (by omega) (fun x h => by
        rw [getD_dropB, hx _ (by omega), Nat.add_mod_left]) (by
        rw [hdl]
        have e : l.length % w.length = (l.length - w.length) % w.length := Nat.mod_eq_sub_mod (by omega)
        rw [← e]; exact hc)
      rw [e1, List.append_assoc]
      exact ⟨lyn_join hw h1 h2, llt_prefix _ _ (by simp)⟩

/-- At the inner round: from 'a' on to 'k' the text repeats a Lyndon word of 'p' bytes. -/
structure DuS (t : List UInt8) (a p k : Nat) : Prop where
  pos : 0 < p
  fits : a + p ≤ k
  ends : k ≤ t.length
  lyn : Lyn ((t.drop a).take p)
  per : ∀ x, a + x < k → t.getD (a + x) 0 = t.getD (a + x % p) 0
theorem take_one (l : List UInt8) (h : 0 < l.length) : ∃ x, l.take 1 = [x] := by
  cases l with
  | nil => cases h
  | cons x l => exact ⟨x, rfl⟩
theorem DuS.start {t : List UInt8} {a : Nat} (h : a < t.length) : DuS t a 1 (a + 1) := by
  obtain ⟨x, hx⟩ := take_one (t.drop a) (by rw [List.length_drop]; omega)
  refine ⟨by omega, by omega, by omega, by rw [hx]; exact lyn_one x, fun x h => ?_⟩
  obtain rfl : x = 0 := by omega
  rfl
theorem mod_back {y p : Nat} (h : p ≤ y) : y % p = (y - p) % p := Nat.mod_eq_sub_mod h
theorem DuS.at_k {t : List UInt8} {a p k : Nat} (h : DuS t a p k) : t.getD (k - p) 0 = t.getD (a + (k - a) % p) 0 := by
  have h1 := h.per (k - p - a) (by have := h.fits; have := h.pos; omega)
  have h2 := h.fits
  rw [show a + (k - p - a) = k - p from by omega] at h1
  rw [h1, mod_back (y := k - a) (by omega), show k - a - p = k - p - a from by omega]
theorem DuS.same {t : List UInt8} {a p k : Nat} (h : DuS t a p k) (hk : k < t.length) (e : t.getD (k - p) 0 = t.getD k 0) : DuS t a p (k + 1) := by
  have h2 := h.fits
  refine ⟨h.pos, by omega, hk, h.lyn, fun x hx => ?_⟩
  by_cases hxk : a + x < k
  · exact h.per x hxk
  · obtain rfl : x = k - a := by omega
    rw [show a + (k - a) = k from by omega, ← h.at_k, e]
theorem take_succ_B (l : List UInt8) (k : Nat) (h : k < l.length) : l.take (k + 1) = l.take k ++ [l.getD k 0] := by
  rw [List.take_add_one, List.getD_eq_getElem?_getD, List.getElem?_eq_getElem h]; rfl
theorem DuS.wlen {t : List UInt8} {a p k : Nat} (h : DuS t a p k) : ((t.drop a).take p).length = p := by
  have := h.fits; have := h.ends
  rw [List.length_take, List.length_drop]; omega
theorem DuS.wat {t : List UInt8} {a p k : Nat} (h : DuS t a p k) (x : Nat) : ((t.drop a).take p).getD (x % p) 0 = t.getD (a + x % p) 0 := by
  rw [getD_takeB _ _ _ (Nat.mod_lt _ h.pos), getD_dropB]
theorem DuS.more {t : List UInt8} {a p k : Nat} (h : DuS t a p k) (hk : k < t.length) (e : t.getD (k - p) 0 < t.getD k 0) : DuS t a (k + 1 - a) (k + 1) := by
  have h2 := h.fits
  have h3 := h.pos
  have hl : ((t.drop a).take (k - a)).length = k - a := by rw [List.length_take, List.length_drop]; omega
  have h1 := (lyn_grow h.lyn (t.getD k 0) (k - a) ((t.drop a).take (k - a)) (by omega) (fun x hx => by
    rw [hl] at hx
    rw [h.wlen, h.wat, getD_takeB _ _ _ hx, getD_dropB, h.per x (by omega)]) (by rw [hl, h.wlen, h.wat, ← h.at_k]; exact e)).1
  refine ⟨by omega, by omega, hk, ?_, fun x hx => by rw [Nat.mod_eq_of_lt (by omega)]⟩
  rw [show k + 1 - a = (k - a) + 1 from by omega, take_succ_B _ _ (by rw [List.length_drop]; omega), getD_dropB, show a + (k - a) = k from by omega]
  exact h1

/-- At the outer round: what is told, and what is to come. -/
structure DuO (t : List UInt8) (F : List (List UInt8)) (a : Nat) : Prop where
  ends : a ≤ t.length
  flat : F.flatten = t.take a
  lyn : ∀ f ∈ F, Lyn f
  fall : F.Pairwise fun a b => lle b a
  rest : ∀ f ∈ F, ∀ u v, t.drop a = u ++ v → lle u f
theorem DuO.start (t : List UInt8) : DuO t [] 0 := ⟨Nat.zero_le _, rfl, by simp, List.Pairwise.nil, by simp⟩
theorem DuO.stop {t : List UInt8} {F : List (List UInt8)} {a : Nat} (h : DuO t F a) (ha : t.length ≤ a) : Cfl t F := ⟨by rw [h.flat, List.take_of_length_le ha], h.lyn, h.fall⟩
/-- While the words are told. -/
structure DuE (t w : List UInt8) (k : Nat) (F : List (List UInt8)) (a : Nat) : Prop where
  ends : k ≤ t.length
  fits : a ≤ k
  word : Lyn w
  flat : F.flatten = t.take a
  lyn : ∀ f ∈ F, Lyn f
  fall : F.Pairwise fun a b => lle b a
  rest : ∀ f ∈ F, lle w f
  per : ∀ x, a + x < k → t.getD (a + x) 0 = w.getD (x % w.length) 0
  out : k < t.length → t.getD k 0 < w.getD ((k - a) % w.length) 0
theorem DuE.start {t : List UInt8} {F : List (List UInt8)} {a p k : Nat} (h : DuS t a p k) (o : DuO t F a) (hk : k < t.length → t.getD k 0 < t.getD (k - p) 0) : DuE t ((t.drop a).take p) k F a := by
  have h2 := h.fits
  refine ⟨h.ends, by omega, h.lyn, o.flat, o.lyn, o.fall, fun f hf => o.rest f hf _ _ (List.take_append_drop p (t.drop a)).symm, fun x hx => ?_, fun hkt => ?_⟩
  · rw [h.wlen, h.wat]; exact h.per x hx
  · rw [h.wlen, h.wat, ← h.at_k]; exact hk hkt
theorem DuE.next {t w : List UInt8} {F : List (List UInt8)} {k a : Nat} (h : DuE t w k F a) (ha : a + w.length ≤ k) : (t.drop a).take w.length = w ∧ DuE t w k (F ++ [w]) (a + w.length) := by
  have hk := h.ends
  have hp : 0 < w.length := List.length_pos_iff.2 h.word.1
  have hwl : ((t.drop a).take w.length).length = w.length := by rw [List.length_take, List.length_drop]; omega
  have e : (t.drop a).take w.length = w := by
    have h1 := take_eq_getD ((t.drop a).take w.length) w (by omega) fun x hx => by
      rw [hwl] at hx
      rw [getD_takeB _ _ _ hx, getD_dropB, h.per x (by omega), Nat.mod_eq_of_lt hx]
    rw [hwl, List.take_of_length_le (Nat.le_refl _)] at h1
    exact h1
  refine ⟨e, hk, ha, h.word, ?_, ?_, ?_, ?_, fun x hx => ?_, fun hkt => ?_⟩
  · rw [List.flatten_append, h.flat, List.flatten_cons, List.flatten_nil, List.append_nil]
    conv => lhs; rw [← e]
    rw [List.take_add]
  · intro f hf
    rw [List.mem_append, List.mem_singleton] at hf
    rcases hf with hf | rfl
    · exact h.lyn f hf
    · exact h.word
  · rw [List.pairwise_append]
    refine ⟨h.fall, by simp, fun f hf g hg => ?_⟩
    rw [List.mem_singleton] at hg
    rw [hg]; exact h.rest f hf
  · intro f hf
    rw [List.mem_append, List.mem_singleton] at hf
    rcases hf with hf | rfl
    · exact h.rest f hf
    · exact lle_refl _
  · have := h.per (w.length + x) (by omega)
    rw [Nat.add_mod_left] at this
    rw [Nat.add_assoc]; exact this
  · have := h.out hkt
    rw [mod_back (y := k - a) (by omega), show k - a - w.length = k - (a + w.length) from by omega] at this
    exact this
theorem DuE.leave {t w : List UInt8} {F : List (List UInt8)} {k a : Nat} (h : DuE t w k F a) (ha : k < a + w.length) : DuO t F a := by
  have hk := h.ends
  have hf := h.fits
  have hp : 0 < w.length := List.length_pos_iff.2 h.word.1
  refine ⟨by omega, h.flat, h.lyn, h.fall, fun f hm u v e => lle_trans ?_ (h.rest f hm)⟩
  have hul : u.length ≤ t.length - a := by
    have := congrArg List.length e
    rw [List.length_drop, List.length_append] at this
    omega
  have hux : ∀ x, x < u.length → u.getD x 0 = t.getD (a + x) 0 := fun x hx => by rw [← getD_dropB, e, getD_appL _ _ _ hx]
  by_cases hle : u.length ≤ k - a
  · have e1 : u = w.take u.length := take_eq_getD u w (by omega) fun x hx => by
      rw [hux x hx, h.per x (by omega), Nat.mod_eq_of_lt (by omega)]
    have := lle_prefix (w.take u.length) (w.drop u.length)
    rw [List.take_append_drop, ← e1] at this
    exact this
  · have hkt : k < t.length := by omega
    have hc := h.out hkt
    rw [Nat.mod_eq_of_lt (by omega)] at hc
    have e1 : u.take (k - a) = w.take (k - a) := by
      have hl : (u.take (k - a)).length = k - a := by rw [List.length_take]; omega
      have := take_eq_getD (u.take (k - a)) w (by omega) fun x hx => by
        rw [hl] at hx
        rw [getD_takeB _ _ _ hx, hux x (by omega), h.per x (by omega), Nat.mod_eq_of_lt (by omega)]
      rwa [hl] at this
    have s1 := split_getD u (k - a) (by omega)
    have s2 := split_getD w (k - a) (by omega)
    rw [hux _ (by omega), show a + (k - a) = k from by omega, e1] at s1
    exact lle_of_lt (Dif.lt ⟨_, _, _, _, _, s1, s2, hc⟩)

end Go.Proofs.Ytmephgemokngnaa
