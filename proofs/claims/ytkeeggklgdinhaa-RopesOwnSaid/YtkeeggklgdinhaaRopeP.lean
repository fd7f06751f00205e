/- Plain: a text in parts. -/
import Derived.Lib.Join
namespace Go.Proofs.Ytkeeggklgdinhaa
set_option linter.unusedVariables false

/-- The text of the parts. -/
def txt (l : List ByteArray) : List UInt8 := (l.map (·.data.toList)).flatten
theorem txt_nil : txt [] = [] := rfl
theorem txt_cons (p : ByteArray) (l : List ByteArray) : txt (p :: l) = p.data.toList ++ txt l := by simp [txt]
theorem txt_append (a b : List ByteArray) : txt (a ++ b) = txt a ++ txt b := by simp [txt]
theorem dlen (p : ByteArray) : p.data.toList.length = p.size := rfl
theorem join_txt (l : List ByteArray) : Lib.join (l.map (·.data.toList)) [] = txt l := by
  cases l with
  | nil => rfl
  | cons p l =>
    rw [List.map_cons, Lib.join_cons, txt_cons, Lib.joinTail, txt]
    congr 1
    rw [List.map_map]
    rfl

/-- The check of the parts from n bytes on. -/
def checkFrom (n : Nat) : List ByteArray → Int
  | [] => 0
  | p :: l => if p.size = 0 then 5 else if 200 < n + p.size then 2 else checkFrom (n + p.size) l
def checkR (l : List ByteArray) : Int := if 60 < l.length then 2 else checkFrom 0 l
theorem checkFrom_iff : ∀ (l : List ByteArray) (n : Nat), n ≤ 200 → (checkFrom n l = 0 ↔ (∀ p ∈ l, p.size ≠ 0) ∧ n + (txt l).length ≤ 200)
  | [], n, h => by simp [checkFrom, txt_nil, h]
  | p :: l, n, h => by
    unfold checkFrom
    by_cases h0 : p.size = 0
    · rw [if_pos h0]
      constructor
      · intro h; cases h
      · intro ⟨h, _⟩; exact absurd h0 (h p (List.mem_cons_self ..))
    · rw [if_neg h0]
      by_cases h1 : 200 < n + p.size
      · rw [if_pos h1, txt_cons, List.length_append, dlen]
        constructor
        · intro h; cases h
        · intro h; omega
      · rw [if_neg h1, checkFrom_iff l _ (by omega), txt_cons, List.length_append, dlen]
        simp only [List.mem_cons, forall_eq_or_imp]
        constructor
        · intro ⟨a, b⟩; exact ⟨⟨h0, a⟩, by omega⟩
        · intro ⟨⟨_, a⟩, b⟩; exact ⟨a, by omega⟩
theorem checkR_iff (l : List ByteArray) : checkR l = 0 ↔ l.length ≤ 60 ∧ (∀ p ∈ l, p.size ≠ 0) ∧ (txt l).length ≤ 200 := by
  unfold checkR
  by_cases h : 60 < l.length
  · rw [if_pos h]
    constructor
    · intro h; cases h
    · intro h; omega
  · rw [if_neg h, checkFrom_iff l 0 (by omega)]
    constructor
    · intro ⟨a, b⟩; exact ⟨by omega, a, by omega⟩
    · intro ⟨_, a, b⟩; exact ⟨a, by omega⟩
theorem txt_take_len (l : List ByteArray) (k : Nat) : (txt (l.take k)).length ≤ (txt l).length := by
  conv => rhs; rw [← List.take_append_drop k l, txt_append, List.length_append]
  omega
theorem len_txt_le : ∀ (l : List ByteArray), (∀ p ∈ l, p.size ≠ 0) → l.length ≤ (txt l).length
  | [], _ => by simp
  | p :: l, h => by
    have := len_txt_le l fun q hq => h q (List.mem_cons_of_mem _ hq)
    have := h p (List.mem_cons_self ..)
    rw [txt_cons, List.length_append, List.length_cons, dlen]; omega

/-- The parts ahead of a place, and from it on. -/
def cutA : Nat → List ByteArray → List ByteArray
  | _, [] => []
  | a, p :: l => if 0 < min a p.size then p.extract 0 (min a p.size) :: cutA (a - min a p.size) l else cutA (a - min a p.size) l
def cutB : Nat → List ByteArray → List ByteArray
  | _, [] => []
  | a, p :: l => if min a p.size < p.size then p.extract (min a p.size) p.size :: cutB (a - min a p.size) l else cutB (a - min a p.size) l
theorem ext_list (p : ByteArray) (i j : Nat) : (p.extract i j).data.toList = (p.data.toList.take j).drop i := by
  simp [ByteArray.data_extract, Array.toList_extract, List.drop_take]
theorem ext_size (p : ByteArray) (i j : Nat) : (p.extract i j).size = min j p.size - i := by simp
theorem txt_cutA : ∀ (l : List ByteArray) (a : Nat), txt (cutA a l) = (txt l).take a
  | [], a => by simp [cutA, txt_nil]
  | p :: l, a => by
    have ih := txt_cutA l (a - min a p.size)
    have e : (txt (p :: l)).take a = p.data.toList.take (min a p.size) ++ (txt l).take (a - min a p.size) := by
      rw [txt_cons, List.take_append, dlen]
      rcases Nat.le_total a p.size with h | h
      · rw [Nat.min_eq_left h]
        congr 2
        omega
      · rw [Nat.min_eq_right h, List.take_of_length_le (by rw [dlen]; exact h), List.take_of_length_le (i := p.size) (by rw [dlen]; omega)]
    unfold cutA
    rw [e]
    by_cases h : 0 < min a p.size
    · rw [if_pos h, txt_cons, ih, ext_list, List.drop_zero]
    · rw [if_neg h, ih, show min a p.size = 0 from by omega]; simp
theorem txt_cutB : ∀ (l : List ByteArray) (a : Nat), txt (cutB a l) = (txt l).drop a
  | [], a => by simp [cutB, txt_nil]
  | p :: l, a => by
    have ih := txt_cutB l (a - min a p.size)
    have e : (txt (p :: l)).drop a = p.data.toList.drop (min a p.size) ++ (txt l).drop (a - min a p.size) := by
      rw [txt_cons, List.drop_append, dlen]
      rcases Nat.le_total a p.size with h | h
      · rw [Nat.min_eq_left h]
        congr 2
        omega
      · rw [Nat.min_eq_right h, List.drop_of_length_le (by rw [dlen]; exact h), List.drop_of_length_le (i := p.size) (by rw [dlen]; omega)]
    unfold cutB
    rw [e]
    by_cases h : min a p.size < p.size
    · rw [if_pos h, txt_cons, ih, ext_list, List.take_of_length_le (by rw [dlen]; omega)]
    · rw [if_neg h, ih, List.drop_of_length_le (i := min a p.size) (by rw [dlen]; omega)]; rfl
theorem cutA_ne : ∀ (l : List ByteArray) (a : Nat), ∀ p ∈ cutA a l, p.size ≠ 0
  | [], _, p, h => by cases h
  | q :: l, a, p, h => by
    unfold cutA at h
    split at h
    · rcases List.mem_cons.1 h with rfl | h
      · rw [ext_size]; omega
      · exact cutA_ne l _ p h
    · exact cutA_ne l _ p h
theorem cutB_ne : ∀ (l : List ByteArray) (a : Nat), ∀ p ∈ cutB a l, p.size ≠ 0
  | [], _, p, h => by cases h
  | q :: l, a, p, h => by
    unfold cutB at h
    split at h
    · rcases List.mem_cons.1 h with rfl | h
      · rw [ext_size]; omega
      · exact cutB_ne l _ p h
    · exact cutB_ne l _ p h
theorem cutB_len : ∀ (l : List ByteArray) (a : Nat), (cutB a l).length ≤ l.length
  | [], _ => by simp [cutB]
  | q :: l, a => by
    have := cutB_len l (a - min a q.size)
    unfold cutB
    split <;> simp only [List.length_cons] <;> omega
theorem cutA_zero : ∀ (l : List ByteArray), cutA 0 l = []
  | [] => rfl
  | q :: l => by
    unfold cutA
    rw [if_neg (by omega), Nat.zero_sub, cutA_zero l]
theorem cut_len : ∀ (l : List ByteArray) (a : Nat), (cutA a l).length + (cutB a l).length ≤ l.length + 1
  | [], _ => by simp [cutA, cutB]
  | q :: l, a => by
    have h1 := cut_len l (a - min a q.size)
    have h2 := cutB_len l (a - min a q.size)
    unfold cutA cutB
    by_cases h : min a q.size < q.size
    · rw [if_pos h, show a - min a q.size = 0 from by omega, cutA_zero]
      rw [show a - min a q.size = 0 from by omega, cutA_zero] at h1
      rw [show a - min a q.size = 0 from by omega] at h2
      split <;> simp only [List.length_cons, List.length_nil] at h1 ⊢ <;> omega
    · rw [if_neg h]
      split <;> simp only [List.length_cons] at h1 ⊢ <;> omega
theorem cutA_len (l : List ByteArray) (a : Nat) : (cutA a l).length ≤ l.length := by
  induction l generalizing a with
  | nil => simp [cutA]
  | cons q l ih =>
    have := ih (a - min a q.size)
    unfold cutA
    split <;> simp only [List.length_cons] <;> omega
theorem cutA_ok {l : List ByteArray} (h : checkR l = 0) (a : Nat) : checkR (cutA a l) = 0 := by
  obtain ⟨h1, h2, h3⟩ := (checkR_iff l).1 h
  refine (checkR_iff _).2 ⟨by have := cutA_len l a; omega, cutA_ne l a, ?_⟩
  rw [txt_cutA, List.length_take]; omega
theorem cutB_ok {l : List ByteArray} (h : checkR l = 0) (a : Nat) : checkR (cutB a l) = 0 := by
  obtain ⟨h1, h2, h3⟩ := (checkR_iff l).1 h
  refine (checkR_iff _).2 ⟨by have := cutB_len l a; omega, cutB_ne l a, ?_⟩
  rw [txt_cutB, List.length_drop]; omega

/-- A text in parts of m bytes. -/
def chunks (m : Nat) : Nat → ByteArray → List ByteArray
  | 0, _ => []
  | f + 1, s => if s.size = 0 then [] else s.extract 0 (min m s.size) :: chunks m f (s.extract (min m s.size) s.size)
theorem chunks_txt (m : Nat) (hm : 0 < m) : ∀ (f : Nat) (s : ByteArray), s.size ≤ f → txt (chunks m f s) = s.data.toList
  | 0, s, h => by
    have : s.data.toList.length = 0 := by rw [dlen]; omega
    rw [List.eq_nil_of_length_eq_zero this]; rfl
  | f + 1, s, h => by
    unfold chunks
    by_cases h0 : s.size = 0
    · have : s.data.toList.length = 0 := by rw [dlen]; omega
      rw [if_pos h0, List.eq_nil_of_length_eq_zero this]; rfl
    · rw [if_neg h0, txt_cons, chunks_txt m hm f _ (by rw [ext_size]; omega), ext_list, ext_list, List.drop_zero]
      rw [List.take_of_length_le (i := s.size) (by rw [dlen]; omega), List.take_append_drop]
theorem chunks_ne (m : Nat) (hm : 0 < m) : ∀ (f : Nat) (s : ByteArray), ∀ p ∈ chunks m f s, p.size ≠ 0
  | 0, s, p, h => by cases h
  | f + 1, s, p, h => by
    unfold chunks at h
    split at h
    · cases h
    · rcases List.mem_cons.1 h with rfl | h
      · rw [ext_size]; omega
      · exact chunks_ne m hm f _ p h
theorem chunks_len (m : Nat) (hm : 0 < m) : ∀ (f : Nat) (s : ByteArray), s.size ≤ f → (chunks m f s).length * m < s.size + m
  | 0, s, h => by rw [chunks]; simp only [List.length_nil]; omega
  | f + 1, s, h => by
    unfold chunks
    by_cases h0 : s.size = 0
    · rw [if_pos h0]; simp only [List.length_nil]; omega
    · rw [if_neg h0]
      have ih := chunks_len m hm f (s.extract (min m s.size) s.size) (by rw [ext_size]; omega)
      rw [ext_size, Nat.min_self] at ih
      rw [List.length_cons, Nat.add_mul, Nat.one_mul]
      rcases Nat.le_total m s.size with h1 | h1
      · omega
      · have h2 : (chunks m f (s.extract (min m s.size) s.size)).length < 1 := Nat.lt_of_mul_lt_mul_right (a := m) (by omega)
        rw [show (chunks m f (s.extract (min m s.size) s.size)).length = 0 from by omega]
        omega

/-- What 'Of' answers, and the parts. -/
def ofE (s : ByteArray) (m : Int) : Int := if 200 < s.size then 2 else if m < 1 then 1 else if 60 < (s.size + min m.toNat 200 - 1) / min m.toNat 200 then 1 else 0
def ofL (s : ByteArray) (m : Int) : List ByteArray := chunks m.toNat s.size s
theorem chunks_big (m M : Nat) (hM : 0 < m) : ∀ (f : Nat) (s : ByteArray), s.size ≤ M → s.size ≤ f → (m = M ∨ M ≤ m) → chunks m f s = chunks M f s
  | 0, _, _, _, _ => rfl
  | f + 1, s, h, hf, hm => by
    unfold chunks
    by_cases h0 : s.size = 0
    · rw [if_pos h0, if_pos h0]
    · rw [if_neg h0, if_neg h0, show min m s.size = min M s.size from by omega, chunks_big m M hM f _ (by rw [ext_size]; omega) (by rw [ext_size]; omega) hm]
theorem of_ok (s : ByteArray) (m : Int) (h : ofE s m = 0) : checkR (ofL s m) = 0 ∧ txt (ofL s m) = s.data.toList := by
  unfold ofE at h
  split at h
  · cases h
  · split at h
    · cases h
    · split at h
      · cases h
      · rename_i h1 h2 h3
        have hm : 0 < m.toNat := by omega
        have ht : txt (ofL s m) = s.data.toList := chunks_txt _ hm _ _ (Nat.le_refl _)
        refine ⟨(checkR_iff _).2 ⟨?_, chunks_ne _ hm _ _, by rw [ht, dlen]; omega⟩, ht⟩
        have hl := chunks_len (min m.toNat 200) (by omega) s.size s (Nat.le_refl _)
        have he : ofL s m = chunks (min m.toNat 200) s.size s := by
          rcases Nat.le_total m.toNat 200 with h | h
          · rw [Nat.min_eq_left h]; rfl
          · rw [Nat.min_eq_right h]; exact chunks_big m.toNat 200 hm _ s (by omega) (Nat.le_refl _) (Or.inr h)
        rw [he]
        generalize hk : min m.toNat 200 = k at *
        have hk0 : 0 < k := by omega
        have : (chunks k s.size s).length ≤ (s.size + k - 1) / k := (Nat.le_div_iff_mul_le hk0).2 (by omega)
        omega

theorem getD_left (a b : List UInt8) (i : Nat) (h : i < a.length) : (a ++ b).getD i 0 = a.getD i 0 := by
  rw [List.getD_eq_getElem?_getD, List.getD_eq_getElem?_getD, List.getElem?_append_left h]
theorem getD_right (a b : List UInt8) (i : Nat) (h : a.length ≤ i) : (a ++ b).getD i 0 = b.getD (i - a.length) 0 := by
  rw [List.getD_eq_getElem?_getD, List.getD_eq_getElem?_getD, List.getElem?_append_right h]
/-- The byte at a place: what 'At' answers. -/
def atB : Int → List ByteArray → Option UInt8
  | _, [] => none
  | i, p :: l => if i < p.size then some (p.data.toList.getD i.toNat 0) else atB (i - p.size) l
theorem atB_txt : ∀ (l : List ByteArray) (i : Nat), atB (i : Int) l = if i < (txt l).length then some ((txt l).getD i 0) else none
  | [], i => by simp [atB, txt_nil]
  | p :: l, i => by
    unfold atB
    by_cases h : (i : Int) < p.size
    · rw [if_pos h, txt_cons, List.length_append, dlen, if_pos (by omega), Int.toNat_natCast, getD_left _ _ _ (by rw [dlen]; omega)]
    · rw [if_neg h, show (i : Int) - (p.size : Int) = ((i - p.size : Nat) : Int) from by omega, atB_txt l, txt_cons, List.length_append, dlen]
      by_cases h2 : i - p.size < (txt l).length
      · rw [if_pos h2, if_pos (by omega), getD_right _ _ _ (by rw [dlen]; omega), dlen]
      · rw [if_neg h2, if_neg (by omega)]

/-- The check of two in a row. -/
def joinE (a b : List ByteArray) : Int := if checkR a = 0 then (if checkR b = 0 then (if checkR (a ++ b) = 0 then 0 else 11) else checkR b) else checkR a
end Go.Proofs.Ytkeeggklgdinhaa
