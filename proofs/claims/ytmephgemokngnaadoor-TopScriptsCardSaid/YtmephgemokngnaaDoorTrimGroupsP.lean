/- Plain: scripts made one in groups. -/
import Derived.Test.YtmephgemokngnaaDoorTrimMany
namespace Go.Proofs.YtmephgemokngnaaDoor
set_option linter.unusedVariables false

/-- Cells as they come of scripts: a kept byte bears no byte of its own, a put one no place. -/
def Fair (l : List Cell) : Prop := ∀ c ∈ l, (0 ≤ c.1 ∧ c.2 = 0) ∨ c.1 = -1
theorem fair_cells0 (n : Nat) : Fair (cells0 n) := fun c hc => by
  unfold cells0 at hc
  obtain ⟨j, _, rfl⟩ := List.mem_map.1 hc
  exact .inl ⟨by simp only; omega, rfl⟩
theorem fair_apply {l : List Cell} (h : Fair l) (es : List Ed) (a : Nat) : Fair (applyC l a es) := fun c hc => by
  rcases mem_applyC l es a c hc with hc | hc
  · exact h c hc
  · exact .inr hc
theorem fair_cellsE : ∀ (L : List (List Ed)) (c : List Cell), Fair c → Fair (cellsE c L).2
  | [], c, h => h
  | es :: L, c, h => by
    rw [cellsE]
    split
    · exact fun x hx => by cases hx
    · exact fair_cellsE L _ (fair_apply h es 0)
theorem cells0_length (n : Nat) : (cells0 n).length = n := by simp [cells0]
theorem cells0_getD (n k : Nat) (h : k < n) : (cells0 n).getD k (0, 0) = ((k : Int), (0 : UInt8)) := by
  unfold cells0
  rw [List.getD_eq_getElem?_getD, List.getElem?_map, List.getElem?_range h]
  rfl
theorem cells0_one (n p : Nat) (h : p < n) : ((cells0 n).take (p + 1)).drop p = [((p : Int), (0 : UInt8))] := by
  rw [take_succ_getD (cells0 n) p (0, 0) (by rw [cells0_length]; exact h), cells0_getD n p h, List.drop_append_of_le_length (by rw [List.length_take, cells0_length]; omega), List.drop_of_length_le (by rw [List.length_take, cells0_length]; omega)]
  rfl
theorem take_drop_cutC (l : List Cell) (a b c : Nat) (h1 : a ≤ b) (h2 : b ≤ c) : (l.take c).drop a = (l.take b).drop a ++ (l.take c).drop b := by
  have := dropC_cut (l.take c) a b h1
  rw [List.take_take, Nat.min_eq_left h2] at this
  exact this
abbrev putC (ins : List UInt8) : List Cell := ins.map (fun b => ((-1 : Int), b))
theorem putC_nil : putC [] = [] := rfl

/-- The script of cells makes them of the text anew. -/
theorem scr_cells (n : Nat) : ∀ (l : List Cell) (at_ a : Nat) (ins : List UInt8), Sorted n at_ l → Fair l → a ≤ at_ → at_ ≤ n →
    applyC (cells0 n) a (scr at_ ins (l ++ [((n : Int), (0 : UInt8))])) = ((cells0 n).take at_).drop a ++ putC ins ++ l
  | [], at_, a, ins, _, _, ha, hs => by
    rw [List.nil_append, scr, if_neg (by simp only; omega), scr, List.append_nil, List.append_nil]
    by_cases h : 0 < (n : Int) - at_ ∨ ins ≠ []
    · rw [if_pos h, applyC, applyC, e8_list]
      simp only [Int.toNat_natCast]
      rw [show ((at_ : Int) + ((n : Int) - at_)).toNat = n from by omega, List.drop_of_length_le (Nat.le_of_eq (cells0_length n)), List.append_nil]
    · have hi : ins = [] := by
        by_cases hh : ins = []
        · exact hh
        · exact absurd (.inr hh) h
      have : ¬ 0 < (n : Int) - at_ := fun hh => h (.inl hh)
      rw [if_neg h, applyC, hi, putC_nil, List.append_nil, List.take_of_length_le (by rw [cells0_length]; omega)]
  | c :: l, at_, a, ins, ⟨h1, h2⟩, hf, ha, hs => by
    have hfl : Fair l := fun x hx => hf x (by simp [hx])
    rw [List.cons_append, scr]
    by_cases hc : c.1 < 0
    · rw [if_neg (by omega)] at h2
      rw [if_pos hc, scr_cells n l at_ a (ins ++ [c.2]) h2 hfl ha hs]
      have hc1 : c.1 = -1 := by rcases hf c (by simp) with h | h <;> omega
      have : c = (-1, c.2) := Prod.ext hc1 rfl
      rw [putC, List.map_append, List.map_singleton, ← this]
      simp
    · obtain ⟨h3, h4⟩ := h1 (by omega)
      rw [if_pos (by omega)] at h2
      rw [if_neg hc]
      obtain ⟨p, hp⟩ : ∃ p : Nat, c.1 = p := ⟨c.1.toNat, by omega⟩
      have hc2 : c.2 = 0 := by
        rcases hf c (by simp) with h | h
        · exact h.2
        · omega
      have hce : c = ((p : Int), (0 : UInt8)) := Prod.ext hp hc2
      rw [hp] at h2 h3 h4 ⊢
      have hps : p < n := by omega
      have hsp := cells0_one n p hps
      by_cases h : 0 < (p : Int) - at_ ∨ ins ≠ []
      · rw [if_pos h, List.cons_append, List.nil_append, applyC, e8_list]
        simp only [Int.toNat_natCast]
        rw [show ((at_ : Int) + ((p : Int) - at_)).toNat = p from by omega]
        have ih := scr_cells n l (p + 1) p [] h2 hfl (by omega) (by omega)
        rw [Int.natCast_add, Int.natCast_one] at ih
        rw [ih, hsp, hce]
        simp
      · have hi : ins = [] := by
          by_cases hh : ins = []
          · exact hh
          · exact absurd (.inr hh) h
        have hat : at_ = p := by
          have : ¬ 0 < (p : Int) - at_ := fun hh => h (.inl hh)
          omega
        rw [if_neg h, List.nil_append, hi, putC_nil, List.append_nil]
        have ih := scr_cells n l (p + 1) a [] h2 hfl (by omega) (by omega)
        rw [Int.natCast_add, Int.natCast_one] at ih
        rw [ih, hat, putC_nil, List.append_nil, take_drop_cutC (cells0 n) a p (p + 1) (by omega) (by omega), hsp, hce]
        simp

/-- A script of cells is refused for its sizes alone. -/
theorem scr_codes {n : Nat} : ∀ (l : List Cell) (at_ : Int) (ins : List UInt8) (f : Bool) (e sz : Int), Sorted n at_ l → 0 ≤ at_ → at_ ≤ n → (f = false → e < at_) →
    chk n f e sz (scr at_ ins (l ++ [((n : Int), (0 : UInt8))])) = 0 ∨ chk n f e sz (scr at_ ins (l ++ [((n : Int), (0 : UInt8))])) = 2 ∨ chk n f e sz (scr at_ ins (l ++ [((n : Int), (0 : UInt8))])) = 11
  | [], at_, ins, f, e, sz, _, h0, hs, hf => by
    rw [List.nil_append, scr, if_neg (by simp only; omega), scr, List.append_nil]
    by_cases h : 0 < (n : Int) - at_ ∨ ins ≠ []
    · rw [if_pos h, chk, if_neg (by simp only; omega)]
      split
      · simp
      · rw [if_neg (by
          rintro ⟨h1, h2⟩
          rcases h with h | h
          · simp only at h1; omega
          · exact h (List.eq_nil_of_length_eq_zero (by simpa [e8_size] using h2))), if_neg (fun hh => by have := hf hh.1; have := hh.2; simp only at this; omega), chk]
        split <;> simp
    · rw [if_neg h, chk]
      split <;> simp
  | c :: l, at_, ins, f, e, sz, ⟨h1, h2⟩, h0, hs, hf => by
    rw [List.cons_append, scr]
    by_cases hc : c.1 < 0
    · rw [if_neg (by omega)] at h2
      rw [if_pos hc]
      exact scr_codes l at_ (ins ++ [c.2]) f e sz h2 h0 hs hf
    · obtain ⟨h3, h4⟩ := h1 (by omega)
      rw [if_pos (by omega)] at h2
      rw [if_neg hc]
      by_cases h : 0 < c.1 - at_ ∨ ins ≠ []
      · rw [if_pos h, List.cons_append, List.nil_append, chk, if_neg (by simp only; omega)]
        split
        · simp
        · rw [if_neg (by
            rintro ⟨h1, h2⟩
            rcases h with h | h
            · simp only at h1; omega
            · exact h (List.eq_nil_of_length_eq_zero (by simpa [e8_size] using h2))), if_neg (fun hh => by have := hf hh.1; have := hh.2; simp only at this; omega)]
          exact scr_codes l (c.1 + 1) [] false _ _ h2 (by omega) (by omega) (fun _ => by simp only; omega)
      · rw [if_neg h, List.nil_append]
        exact scr_codes l (c.1 + 1) [] f e sz h2 (by omega) (by omega) (fun hh => by have := hf hh; omega)

theorem cellsE_append : ∀ (L M : List (List Ed)) (c : List Cell), cellsE c (L ++ M) = if (cellsE c L).1 ≠ 0 then ((cellsE c L).1, []) else cellsE (cellsE c L).2 M
  | [], M, c => by rw [List.nil_append, cellsE, if_neg (by simp)]
  | es :: L, M, c => by
    rw [List.cons_append, cellsE, cellsE]
    by_cases h : checkE c.length es = 0
    · have hn : ¬ checkE c.length es ≠ 0 := by simpa using h
      rw [if_neg hn, if_neg hn, cellsE_append L M]
    · rw [if_pos h, if_pos h, if_pos h]

/-- Kept bytes in a row: the pending edit comes out at the first. -/
theorem scr_run (n : Nat) (rest : List Cell) : ∀ (m q : Nat) (i : Int) (ins : List UInt8), q + m + 1 ≤ n → i ≤ q →
    scr i ins (((cells0 n).take (q + m + 1)).drop q ++ rest) = (if 0 < (q : Int) - i ∨ ins ≠ [] then [(i, (q : Int) - i, e8 ins)] else []) ++ scr ((q + m + 1 : Nat) : Int) [] rest
  | 0, q, i, ins, h, hi => by
    rw [Nat.add_zero, cells0_one n q (by omega), List.cons_append, List.nil_append, scr, if_neg (by simp only; omega)]
    rfl
  | m + 1, q, i, ins, h, hi => by
    rw [take_drop_cutC (cells0 n) q (q + 1) (q + (m + 1) + 1) (by omega) (by omega), cells0_one n q (by omega), List.cons_append, List.nil_append, List.cons_append, scr, if_neg (by simp only; omega)]
    have ih := scr_run n rest m (q + 1) ((q + 1 : Nat) : Int) [] (by omega) (Int.le_refl _)
    rw [show q + 1 + m + 1 = q + (m + 1) + 1 from by omega, if_neg (fun hh => hh.elim (fun h => by omega) (fun h => h rfl)), List.nil_append] at ih
    simp only
    rw [show (q : Int) + 1 = ((q + 1 : Nat) : Int) from by omega, ih]
theorem scr_put (i : Int) (rest : List Cell) : ∀ (ins acc : List UInt8), scr i acc (putC ins ++ rest) = scr i (acc ++ ins) rest
  | [], acc => by simp
  | b :: ins, acc => by
    rw [putC, List.map_cons, List.cons_append, scr, if_pos (show (-1 : Int) < 0 by decide)]
    have := scr_put i rest ins (acc ++ [b])
    rw [putC] at this
    rw [this, List.append_assoc]
    rfl
theorem scr_end (n : Nat) : scr (n : Int) [] [((n : Int), (0 : UInt8))] = [] := by
  rw [scr, if_neg (show ¬ ((n : Int) < 0) by omega), if_neg (fun hh => hh.elim (fun h => by simp only at h; omega) (fun h => h rfl)), scr]
  rfl
/-- One script alone is what it was. -/
theorem scr_same {n : Nat} : ∀ (es : List Ed) (q : Nat) (i : Int) (ins : List UInt8), OkE n false q es → i ≤ q → q ≤ n →
    scr i ins (applyC (cells0 n) q es ++ [((n : Int), (0 : UInt8))]) = (if 0 < (q : Int) - i ∨ ins ≠ [] then [(i, (q : Int) - i, e8 ins)] else []) ++ es
  | [], q, i, ins, _, hi, hq => by
    rw [applyC]
    rcases Nat.eq_or_lt_of_le hq with h | h
    · rw [List.drop_of_length_le (by rw [cells0_length]; omega), List.nil_append, scr, if_neg (by simp only; omega), scr, h]
    · obtain ⟨m, hm⟩ : ∃ m, n = q + m + 1 := ⟨n - q - 1, by omega⟩
      have hd : (cells0 n).drop q = ((cells0 n).take (q + m + 1)).drop q := by rw [List.take_of_length_le (by rw [cells0_length]; omega)]
      rw [hd, scr_run n _ m q i ins (by omega) hi, ← hm, scr_end]
  | x :: es, q, i, ins, ⟨h1, h2, h3, h4, h5, h6, h7⟩, hi, hq => by
    obtain ⟨j, hj⟩ : ∃ j : Nat, x.1 = j := ⟨x.1.toNat, by omega⟩
    obtain ⟨r, hr⟩ : ∃ r : Nat, x.1 + x.2.1 = r := ⟨(x.1 + x.2.1).toNat, by omega⟩
    have hqj : q < j := by have := h6 rfl; omega
    obtain ⟨m, hm⟩ : ∃ m, j = q + m + 1 := ⟨j - q - 1, by omega⟩
    rw [hr] at h7
    rw [applyC, hr, hj, Int.toNat_natCast, Int.toNat_natCast, List.append_assoc, List.append_assoc]
    rw [show ((cells0 n).take j).drop q = ((cells0 n).take (q + m + 1)).drop q from by rw [← hm]]
    rw [scr_run n _ m q i ins (by omega) hi, ← hm]
    have hp := scr_put (j : Int) (applyC (cells0 n) r es ++ [((n : Int), (0 : UInt8))]) x.2.2.data.toList []
    rw [putC, List.nil_append] at hp
    rw [hp, scr_same es r (j : Int) x.2.2.data.toList h7 (by omega) (by omega)]
    have hcond : 0 < (r : Int) - j ∨ x.2.2.data.toList ≠ [] := by
      by_cases hd : x.2.1 = 0
      · refine .inr fun he => h5 ⟨hd, ?_⟩
        have := congrArg List.length he
        exact this
      · exact .inl (by omega)
    rw [if_pos hcond, List.cons_append, List.nil_append]
    have hx : ((j : Int), (r : Int) - j, e8 x.2.2.data.toList) = x := by
      rw [e8_of]
      refine Prod.ext (by simp only; omega) (Prod.ext (by simp only; omega) rfl)
    rw [hx]
end Go.Proofs.YtmephgemokngnaaDoor
