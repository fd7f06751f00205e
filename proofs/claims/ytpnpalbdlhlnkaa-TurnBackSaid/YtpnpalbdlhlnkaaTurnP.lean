/- Plain: the turns of a word in order, and their last bytes (Burrows, Wheeler). -/
import Derived.Test.YtpnpalbdlhlnkaaLyndon
import Derived.Lib.Bytealg
namespace Go.Proofs.Ytpnpalbdlhlnkaa
set_option linter.unusedVariables false

theorem compare_llt : ∀ a b : List UInt8, Lib.compareBytes a b = if llt a b = true then -1 else if a = b then 0 else 1
  | [], [] => by simp [Lib.compareBytes, llt]
  | [], _ :: _ => by simp [Lib.compareBytes, llt]
  | _ :: _, [] => by simp [Lib.compareBytes, llt]
  | x :: a, y :: b => by
    rw [Lib.compareBytes, compare_llt a b]
    by_cases h1 : x < y
    · rw [if_pos h1, if_pos ((llt_cons x y a b).2 (.inl h1))]
    · rw [if_neg h1]
      by_cases h2 : y < x
      · have hne : x ≠ y := fun e => by subst e; exact u8_irrefl x h2
        rw [if_pos h2, if_neg, if_neg]
        · intro e; injection e with e _; exact hne e
        · rw [llt_cons]
          rintro (h | ⟨h, _⟩)
          · exact h1 h
          · exact hne h
      · have e : x = y := by
          rcases u8_tri x y with h | h | h
          · exact absurd h h1
          · exact h
          · exact absurd h h2
        subst e
        rw [if_neg h2]
        have : llt (x :: a) (x :: b) = llt a b := by
          rw [Bool.eq_iff_iff, llt_cons]
          exact ⟨fun h => h.elim (fun h => absurd h h1) (·.2), fun h => .inr ⟨rfl, h⟩⟩
        rw [this]
        by_cases h3 : a = b
        · subst h3; simp
        · rw [if_neg h3, if_neg (c := x :: a = x :: b) (by simpa using h3)]

/-- Two rows of one order, of the same elements, are one. -/
theorem sorted_eq {α : Type} {R : α → α → Prop} (hR : ∀ a b, R a b → R b a → a = b) : ∀ {l m : List α}, l.Perm m → l.Pairwise R → m.Pairwise R → l = m
  | [], m, h, _, _ => h.nil_eq
  | a :: l, [], h, _, _ => absurd h.length_eq (by simp)
  | a :: l, b :: m, h, h1, h2 => by
    obtain ⟨a1, l1⟩ := List.pairwise_cons.1 h1
    obtain ⟨b1, m1⟩ := List.pairwise_cons.1 h2
    have e : a = b := by
      rcases List.mem_cons.1 (h.mem_iff.1 (show a ∈ a :: l by simp)) with e | ha
      · exact e
      · rcases List.mem_cons.1 (h.mem_iff.2 (show b ∈ b :: m by simp)) with e | hb
        · exact e.symm
        · exact hR a b (a1 b hb) (b1 a ha)
    subst e
    rw [sorted_eq hR (List.perm_cons a |>.1 h) l1 m1]

def rotL (s : List UInt8) (i : Nat) : List UInt8 := s.drop i ++ s.take i
theorem rotL_len (s : List UInt8) (i : Nat) : (rotL s i).length = s.length := by
  unfold rotL
  rw [List.length_append, List.length_drop, List.length_take]; omega
/-- How turns i and k stand to each other. -/
def ltR (s : List UInt8) (i k : Nat) : Prop := llt (rotL s i) (rotL s k) = true ∨ rotL s i = rotL s k ∧ i < k
def cmpR (s : List UInt8) (i k : Nat) : Int := if Lib.compareBytes (rotL s i) (rotL s k) ≠ 0 then Lib.compareBytes (rotL s i) (rotL s k) else (i : Int) - (k : Int)
theorem cmpR_lt (s : List UInt8) (i k : Nat) : cmpR s i k < 0 ↔ ltR s i k := by
  unfold cmpR ltR
  rw [compare_llt]
  by_cases h1 : llt (rotL s i) (rotL s k) = true
  · simp [h1]
  · by_cases h2 : rotL s i = rotL s k
    · rw [if_neg h1, if_pos h2]
      simp only [ne_eq, not_true_eq_false, if_false]
      constructor
      · intro h; exact .inr ⟨h2, by omega⟩
      · rintro (h | ⟨_, h⟩)
        · exact absurd h h1
        · omega
    · rw [if_neg h1, if_neg h2]
      simp [h1, h2]
theorem ltR_irrefl (s : List UInt8) (i : Nat) : ¬ ltR s i i := by
  rintro (h | ⟨_, h⟩)
  · rw [llt_irrefl] at h; cases h
  · omega
theorem ltR_trans {s : List UInt8} {i j k : Nat} (h1 : ltR s i j) (h2 : ltR s j k) : ltR s i k := by
  rcases h1 with h1 | ⟨h1, h1'⟩ <;> rcases h2 with h2 | ⟨h2, h2'⟩
  · exact .inl (llt_trans h1 h2)
  · exact .inl (h2 ▸ h1)
  · exact .inl (h1 ▸ h2)
  · exact .inr ⟨h1.trans h2, by omega⟩
theorem ltR_tri (s : List UInt8) (i k : Nat) : ltR s i k ∨ i = k ∨ ltR s k i := by
  rcases llt_tri (rotL s i) (rotL s k) with h | h | h
  · exact .inl (.inl h)
  · rcases Nat.lt_trichotomy i k with h' | h' | h'
    · exact .inl (.inr ⟨h, h'⟩)
    · exact .inr (.inl h')
    · exact .inr (.inr (.inr ⟨h.symm, h'⟩))
  · exact .inr (.inr (.inl h))
/-- The places of a word in the order of its turns. -/
structure IsOrd (s : List UInt8) (o : List Nat) : Prop where
  perm : o.Perm (List.range s.length)
  sorted : o.Pairwise (ltR s)
theorem IsOrd.unique {s : List UInt8} {o o' : List Nat} (h : IsOrd s o) (h' : IsOrd s o') : o = o' :=
  sorted_eq (R := ltR s) (fun a b h1 h2 => absurd (ltR_trans h1 h2) (ltR_irrefl s a)) (h.perm.trans h'.perm.symm) h.sorted h'.sorted
theorem IsOrd.len {s : List UInt8} {o : List Nat} (h : IsOrd s o) : o.length = s.length := by rw [h.perm.length_eq, List.length_range]
theorem IsOrd.lt {s : List UInt8} {o : List Nat} (h : IsOrd s o) {i : Nat} (hi : i ∈ o) : i < s.length := List.mem_range.1 (h.perm.mem_iff.1 hi)
/-- The byte ahead of a place, in the ring. -/
def prevB (s : List UInt8) (i : Nat) : UInt8 := (s ++ s).getD (i + s.length - 1) 0
/-- The last bytes. -/
def lastB (s : List UInt8) (o : List Nat) : List UInt8 := o.map (prevB s)
/-- The rows. -/
def rowsR (s : List UInt8) (o : List Nat) : List (List UInt8) := o.map (rotL s)
theorem IsOrd.rows_sorted {s : List UInt8} {o : List Nat} (h : IsOrd s o) : (rowsR s o).Pairwise lle := by
  unfold rowsR
  refine List.Pairwise.map _ (fun a b hab => ?_) h.sorted
  rcases hab with h | ⟨h, _⟩
  · exact lle_of_lt h
  · rw [h]; exact lle_refl _
/-- All turns. -/
def turnsL (s : List UInt8) : List (List UInt8) := (List.range s.length).map (rotL s)
theorem IsOrd.rows_perm {s : List UInt8} {o : List Nat} (h : IsOrd s o) : (rowsR s o).Perm (turnsL s) := h.perm.map _
theorem getD_app_r (a b : List UInt8) (k : Nat) : (a ++ b).getD (a.length + k) 0 = b.getD k 0 := by
  rw [List.getD_eq_getElem?_getD, List.getElem?_append_right (by omega), Nat.add_sub_cancel_left, List.getD_eq_getElem?_getD]
theorem getD_app_l (a b : List UInt8) {k : Nat} (h : k < a.length) : (a ++ b).getD k 0 = a.getD k 0 := by
  rw [List.getD_eq_getElem?_getD, List.getElem?_append_left h, List.getD_eq_getElem?_getD]
/-- A turn's last byte. -/
theorem prevB_last {s : List UInt8} {i : Nat} (hi : i < s.length) : prevB s i = (rotL s i).getD (s.length - 1) 0 := by
  unfold prevB rotL
  rcases Nat.eq_zero_or_pos i with h0 | h0
  · subst h0
    rw [List.drop_zero, List.take_zero, List.append_nil, Nat.zero_add, getD_app_l _ _ (by omega)]
  · have e1 : i + s.length - 1 = s.length + (i - 1) := by omega
    have e2 : s.length - 1 = (s.drop i).length + (i - 1) := by rw [List.length_drop]; omega
    rw [e1, getD_app_r, e2, getD_app_r, List.getD_eq_getElem?_getD, List.getD_eq_getElem?_getD, List.getElem?_take, if_pos (by omega)]
theorem lastB_rows {s : List UInt8} {o : List Nat} (h : ∀ i ∈ o, i < s.length) : lastB s o = (rowsR s o).map (·.getD (s.length - 1) 0) := by
  unfold lastB rowsR
  rw [List.map_map]
  exact List.map_congr_left fun i hi => prevB_last (h i hi)
theorem rotL_rotL {s : List UInt8} {k j : Nat} (hk : k ≤ s.length) (hj : j < s.length) : rotL (rotL s k) j = rotL s ((j + k) % s.length) := by
  unfold rotL
  have l1 : (s.drop k).length = s.length - k := List.length_drop
  have l2 : (s.take k).length = k := by rw [List.length_take]; omega
  rcases Nat.lt_or_ge (j + k) s.length with h | h
  · rw [Nat.mod_eq_of_lt h, List.drop_append_of_le_length (by omega), List.take_append_of_le_length (by omega), List.drop_drop, List.append_assoc]
    rw [Nat.add_comm k j]
    congr 1
    rw [← List.take_append_drop k (s.take (j + k)), List.take_take, Nat.min_eq_left (by omega), List.drop_take, show j + k - k = j from by omega]
  · have e : (j + k) % s.length = j + k - s.length := by
      rw [Nat.mod_eq_sub_mod h, Nat.mod_eq_of_lt (by omega)]
    rw [e]
    obtain ⟨d, hd⟩ : ∃ d, d = j + k - s.length := ⟨_, rfl⟩
    rw [← hd]
    have e1 : (s.drop k ++ s.take k).drop j = (s.drop d).take (k - d) := by
      rw [List.drop_append, List.drop_eq_nil_of_le (by omega), List.nil_append, l1, show j - (s.length - k) = d from by omega, List.drop_take]
    have e2 : (s.drop k ++ s.take k).take j = s.drop k ++ s.take d := by
      rw [List.take_append, List.take_of_length_le (by omega), l1, show j - (s.length - k) = d from by omega, List.take_take, Nat.min_eq_left (by omega)]
    have e3 : s.drop k = (s.drop d).drop (k - d) := by rw [List.drop_drop]; congr 1; omega
    rw [e1, e2, e3, ← List.append_assoc, List.take_append_drop]
theorem turns_perm (s : List UInt8) {k : Nat} (hk : k ≤ s.length) : (turnsL (rotL s k)).Perm (turnsL s) := by
  unfold turnsL
  rw [rotL_len]
  obtain ⟨m, hm⟩ := Nat.exists_eq_add_of_le hk
  have e1 : (List.range s.length).map (rotL (rotL s k)) = (List.range m).map (fun j => rotL s (k + j)) ++ (List.range k).map (rotL s) := by
    rw [hm, Nat.add_comm k m, List.range_add, List.map_append, List.map_map]
    congr 1
    · refine List.map_congr_left fun j hj => ?_
      have := List.mem_range.1 hj
      rw [rotL_rotL hk (by omega), Nat.mod_eq_of_lt (by omega), Nat.add_comm]
    · refine List.map_congr_left fun j hj => ?_
      have := List.mem_range.1 hj
      show rotL (rotL s k) (m + j) = _
      rw [rotL_rotL hk (by omega), show m + j + k = j + s.length from by omega, Nat.add_mod_right, Nat.mod_eq_of_lt (by omega)]
  have e2 : (List.range s.length).map (rotL s) = (List.range k).map (rotL s) ++ (List.range m).map (fun j => rotL s (k + j)) := by
    rw [hm, List.range_add, List.map_append, List.map_map]
    rfl
  rw [e1, e2]
  exact List.perm_append_comm
/-- All turns of a word have the same rows, and the same last bytes. -/
theorem turn_rows {s : List UInt8} {o o' : List Nat} {k : Nat} (hk : k ≤ s.length) (h : IsOrd s o) (h' : IsOrd (rotL s k) o') : rowsR (rotL s k) o' = rowsR s o :=
  sorted_eq (R := lle) (fun a b h1 h2 => lle_antisymm h1 h2) (h'.rows_perm.trans ((turns_perm s hk).trans h.rows_perm.symm)) h'.rows_sorted h.rows_sorted
theorem turn_same {s : List UInt8} {o o' : List Nat} {k : Nat} (hk : k ≤ s.length) (h : IsOrd s o) (h' : IsOrd (rotL s k) o') : lastB (rotL s k) o' = lastB s o := by
  rw [lastB_rows fun i hi => h'.lt hi, lastB_rows fun i hi => h.lt hi, turn_rows hk h h', rotL_len]
/-- Where the word itself stands. -/
def zeroAt (o : List Nat) : Nat := o.idxOf 0

/-- The order of places by their bytes, and of the same by place. -/
def ltB (t : List UInt8) (i k : Nat) : Prop := t.getD i 0 < t.getD k 0 ∨ t.getD i 0 = t.getD k 0 ∧ i < k
def cmpB (t : List UInt8) (i k : Nat) : Int := if t.getD i 0 ≠ t.getD k 0 then ((t.getD i 0).toNat : Int) - ((t.getD k 0).toNat : Int) else (i : Int) - (k : Int)
theorem cmpB_lt (t : List UInt8) (i k : Nat) : cmpB t i k < 0 ↔ ltB t i k := by
  unfold cmpB ltB
  by_cases h : t.getD i 0 = t.getD k 0
  · rw [if_neg (by simpa using h), h]
    constructor
    · intro h; exact .inr ⟨rfl, by omega⟩
    · rintro (h | ⟨_, h⟩)
      · exact absurd h (u8_irrefl _)
      · omega
  · rw [if_pos (by simpa using h)]
    constructor
    · intro h'; exact .inl (UInt8.lt_iff_toNat_lt.2 (by omega))
    · rintro (h' | ⟨h', _⟩)
      · have := UInt8.lt_iff_toNat_lt.1 h'; omega
      · exact absurd h' h
theorem ltB_irrefl (t : List UInt8) (i : Nat) : ¬ ltB t i i := by
  rintro (h | ⟨_, h⟩)
  · exact u8_irrefl _ h
  · omega
theorem ltB_trans {t : List UInt8} {i j k : Nat} (h1 : ltB t i j) (h2 : ltB t j k) : ltB t i k := by
  rcases h1 with h1 | ⟨h1, h1'⟩ <;> rcases h2 with h2 | ⟨h2, h2'⟩
  · exact .inl (u8_trans h1 h2)
  · exact .inl (h2 ▸ h1)
  · exact .inl (h1 ▸ h2)
  · exact .inr ⟨h1.trans h2, by omega⟩
theorem ltB_tri (t : List UInt8) (i k : Nat) : ltB t i k ∨ i = k ∨ ltB t k i := by
  rcases u8_tri (t.getD i 0) (t.getD k 0) with h | h | h
  · exact .inl (.inl h)
  · rcases Nat.lt_trichotomy i k with h' | h' | h'
    · exact .inl (.inr ⟨h, h'⟩)
    · exact .inr (.inl h')
    · exact .inr (.inr (.inr ⟨h.symm, h'⟩))
  · exact .inr (.inr (.inl h))
structure IsOrdB (t : List UInt8) (o : List Nat) : Prop where
  perm : o.Perm (List.range t.length)
  sorted : o.Pairwise (ltB t)
theorem IsOrdB.unique {t : List UInt8} {o o' : List Nat} (h : IsOrdB t o) (h' : IsOrdB t o') : o = o' :=
  sorted_eq (R := ltB t) (fun a b h1 h2 => absurd (ltB_trans h1 h2) (ltB_irrefl t a)) (h.perm.trans h'.perm.symm) h.sorted h'.sorted
theorem IsOrdB.len {t : List UInt8} {o : List Nat} (h : IsOrdB t o) : o.length = t.length := by rw [h.perm.length_eq, List.length_range]
theorem IsOrdB.lt {t : List UInt8} {o : List Nat} (h : IsOrdB t o) {i : Nat} (hi : i ∈ o) : i < t.length := List.mem_range.1 (h.perm.mem_iff.1 hi)
/-- Step by step, from a place: the bytes that come up. -/
def stepsG (t : List UInt8) (l : List Nat) : Nat → Nat → List UInt8
  | _, 0 => []
  | k, n + 1 => t.getD (l.getD k 0) 0 :: stepsG t l (l.getD k 0) n
def placeG (l : List Nat) (k : Nat) : Nat → Nat
  | 0 => k
  | n + 1 => l.getD (placeG l k n) 0
theorem stepsG_snoc (t : List UInt8) (l : List Nat) : ∀ (n k : Nat), stepsG t l k (n + 1) = stepsG t l k n ++ [t.getD (placeG l k (n + 1)) 0]
  | 0, k => rfl
  | n + 1, k => by
    have e : ∀ m k, placeG l (l.getD k 0) m = placeG l k (m + 1) := fun m => by
      induction m with
      | zero => intro k; rfl
      | succ m ih => intro k; show l.getD (placeG l (l.getD k 0) m) 0 = l.getD (placeG l k (m + 1)) 0; rw [ih]
    rw [stepsG, stepsG_snoc t l n, stepsG, List.cons_append, e]
theorem stepsG_len (t : List UInt8) (l : List Nat) : ∀ (n k : Nat), (stepsG t l k n).length = n
  | 0, _ => rfl
  | n + 1, k => by rw [stepsG, List.length_cons, stepsG_len]
end Go.Proofs.Ytpnpalbdlhlnkaa
