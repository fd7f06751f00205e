/- Plain: a script and what undoes it come to what it took. -/
import Derived.Test.YtookbaaicpapnaaTrimGroupsP
import Derived.Test.YtookbaaicpapnaaTrimSame
import Derived.Test.YtookbaaicpapnaaUndoP
namespace Go.Proofs.Ytookbaaicpapnaa
open Go.RowKit
set_option linter.unusedVariables false

/-- The cells after a script and what undoes it. -/
def wC (n : Nat) (s : List UInt8) : Nat → List Ed → List Cell
  | a, [] => (cells0 n).drop a
  | a, x :: l => ((cells0 n).take x.1.toNat).drop a ++ putC ((s.drop x.1.toNat).take x.2.1.toNat) ++ wC n s (x.1 + x.2.1).toNat l
theorem undo_cells {n : Nat} {s : List UInt8} {T : List Cell} : ∀ {l : List Ed} {f : Bool} {e : Nat} {m : Int}, OkE n f e l → (f = true → e = 0) → 0 ≤ (e : Int) + m → (e : Int) ≤ n → T.drop ((e : Int) + m).toNat = applyC (cells0 n) e l →
    applyC T ((e : Int) + m).toNat (undoE s m l) = wC n s e l
  | [], f, e, m, _, _, _, _, hd => by rw [undoE, applyC, wC, hd, applyC]
  | x :: l, f, e, m, ⟨h1, h2, h3, h4, h5, h6, h7⟩, hf, he, hen, hd => by
    obtain ⟨i, hi⟩ : ∃ i : Nat, x.1 = i := ⟨x.1.toNat, by omega⟩
    obtain ⟨q, hq⟩ : ∃ q : Nat, x.1 + x.2.1 = q := ⟨(x.1 + x.2.1).toNat, by omega⟩
    obtain ⟨p, hp⟩ : ∃ p : Nat, (e : Int) + m = p := ⟨((e : Int) + m).toNat, by omega⟩
    have hei : e ≤ i := by
      cases f with
      | true => rw [hf rfl]; omega
      | false => have := h6 rfl; omega
    rw [hp, Int.toNat_natCast] at hd
    have e1 : (x.1 + m).toNat = p + (i - e) := by omega
    have e2 : (x.1 + m + (x.2.2.size : Int)).toNat = p + (i - e) + x.2.2.size := by omega
    rw [applyC, hq, hi, Int.toNat_natCast, Int.toNat_natCast] at hd
    have hl1 : (((cells0 n).take i).drop e).length = i - e := by rw [List.length_drop, List.length_take, cells0_length]; omega
    have hl2 : (putC x.2.2.data.toList).length = x.2.2.size := by rw [List.length_map]; rfl
    have t1 : (T.take (p + (i - e))).drop p = ((cells0 n).take i).drop e := by
      rw [List.drop_take, show p + (i - e) - p = i - e from by omega, hd, List.append_assoc, List.take_append_of_le_length (by omega), List.take_of_length_le (by omega)]
    have t2 : T.drop (p + (i - e) + x.2.2.size) = applyC (cells0 n) q l := by
      have : T.drop (p + (i - e) + x.2.2.size) = (T.drop p).drop (i - e + x.2.2.size) := by rw [List.drop_drop]; congr 1; omega
      rw [this, hd, List.drop_append, List.drop_of_length_le (by rw [List.length_append, hl1, hl2]; omega), List.nil_append, List.length_append, hl1, hl2, Nat.sub_self, List.drop_zero]
    rw [hq] at h7
    have ih := undo_cells (s := s) (T := T) (m := m + ((x.2.2.size : Int) - x.2.1)) h7 (fun h => by cases h) (by omega) (by omega) (by
      rw [show ((q : Int) + (m + ((x.2.2.size : Int) - x.2.1))).toNat = p + (i - e) + x.2.2.size from by omega]; exact t2)
    rw [show ((q : Int) + (m + ((x.2.2.size : Int) - x.2.1))).toNat = p + (i - e) + x.2.2.size from by omega] at ih
    rw [undoE, applyC, hp, Int.toNat_natCast, wC]
    simp only
    rw [e1, e2, e8_list, t1, ih, hq, hi, Int.toNat_natCast, Int.toNat_natCast]

/-- What a script and what undoes it come to. -/
def keepE (s : List UInt8) : List Ed → List Ed
  | [] => []
  | x :: l => (if 0 < x.2.1 then [(x.1, x.2.1, e8 ((s.drop x.1.toNat).take x.2.1.toNat))] else []) ++ keepE s l
theorem keep_mem (s : List UInt8) : ∀ (l : List Ed) (z : Ed), z ∈ keepE s l → ∃ x ∈ l, z = (x.1, x.2.1, e8 ((s.drop x.1.toNat).take x.2.1.toNat))
  | [], z, h => by cases h
  | x :: l, z, h => by
    rw [keepE] at h
    rcases List.mem_append.1 h with h | h
    · by_cases hd : 0 < x.2.1
      · rw [if_pos hd] at h
        exact ⟨x, by simp, List.mem_singleton.1 h⟩
      · rw [if_neg hd] at h; cases h
    · obtain ⟨y, hy, hz⟩ := keep_mem s l z h
      exact ⟨y, by simp [hy], hz⟩
theorem scr_undo {n : Nat} {s : List UInt8} (hs : s.length = n) : ∀ (es : List Ed) (q : Nat) (i : Int) (ins : List UInt8), OkE n false q es → i ≤ q → q ≤ n →
    scr i ins (wC n s q es ++ [((n : Int), (0 : UInt8))]) = (if 0 < (q : Int) - i ∨ ins ≠ [] then [(i, (q : Int) - i, e8 ins)] else []) ++ keepE s es
  | [], q, i, ins, _, hi, hq => by
    have := scr_same (n := n) [] q i ins trivial hi hq
    rw [applyC] at this
    rw [wC, keepE]
    exact this
  | x :: es, q, i, ins, ⟨h1, h2, h3, h4, h5, h6, h7⟩, hi, hq => by
    obtain ⟨j, hj⟩ : ∃ j : Nat, x.1 = j := ⟨x.1.toNat, by omega⟩
    obtain ⟨r, hr⟩ : ∃ r : Nat, x.1 + x.2.1 = r := ⟨(x.1 + x.2.1).toNat, by omega⟩
    have hqj : q < j := by have := h6 rfl; omega
    obtain ⟨m, hm⟩ : ∃ m, j = q + m + 1 := ⟨j - q - 1, by omega⟩
    rw [hr] at h7
    rw [wC, hr, hj, Int.toNat_natCast, Int.toNat_natCast, List.append_assoc, List.append_assoc]
    rw [show ((cells0 n).take j).drop q = ((cells0 n).take (q + m + 1)).drop q from by rw [← hm]]
    rw [scr_run n _ m q i ins (by omega) hi, ← hm, keepE]
    have hp := scr_put (j : Int) (wC n s r es ++ [((n : Int), (0 : UInt8))]) ((s.drop j).take x.2.1.toNat) []
    rw [List.nil_append] at hp
    rw [hp, scr_undo hs es r (j : Int) _ h7 (by omega) (by omega), hj, Int.toNat_natCast]
    congr 1
    have hdl : ((s.drop j).take x.2.1.toNat).length = x.2.1.toNat := by rw [List.length_take, List.length_drop]; omega
    have hrd : (r : Int) - j = x.2.1 := by omega
    rw [hrd]
    by_cases hd : 0 < x.2.1
    · rw [if_pos (.inl hd), if_pos hd]
    · have hne : ¬ (0 < x.2.1 ∨ (s.drop j).take x.2.1.toNat ≠ []) := fun hh => hh.elim hd fun h => h (List.eq_nil_of_length_eq_zero (by rw [hdl]; omega))
      rw [if_neg hne, if_neg hd]
theorem undone_list {n : Nat} {s : List UInt8} (hs : s.length = n) (es : List Ed) (h : OkE n true 0 es) : scr 0 [] (wC n s 0 es ++ [((n : Int), (0 : UInt8))]) = keepE s es := by
  cases es with
  | nil =>
    have := scr_undo (n := n) hs [] 0 0 [] trivial (Int.le_refl _) (Nat.zero_le _)
    simpa using this
  | cons x es =>
    by_cases h0 : 0 < x.1
    · obtain ⟨h1, h2, h3, h4, h5, h6, h7⟩ := h
      have := scr_undo (n := n) hs (x :: es) 0 0 [] ⟨h1, h2, h3, h4, h5, fun _ => by simpa using h0, h7⟩ (Int.le_refl _) (Nat.zero_le _)
      simpa using this
    · obtain ⟨h1, h2, h3, h4, h5, h6, h7⟩ := h
      have hx : x.1 = 0 := by omega
      obtain ⟨r, hr⟩ : ∃ r : Nat, x.1 + x.2.1 = r := ⟨(x.1 + x.2.1).toNat, by omega⟩
      rw [hr] at h7
      rw [wC, hr, hx, Int.toNat_natCast, Int.toNat_zero, List.take_zero, List.drop_nil, List.nil_append, List.append_assoc, keepE, hx, Int.toNat_zero]
      have hp := scr_put 0 (wC n s r es ++ [((n : Int), (0 : UInt8))]) ((s.drop 0).take x.2.1.toNat) []
      rw [List.nil_append] at hp
      rw [hp, scr_undo hs es r 0 _ h7 (by omega) (by omega)]
      congr 1
      have hdl : ((s.drop 0).take x.2.1.toNat).length = x.2.1.toNat := by rw [List.length_take, List.length_drop]; omega
      have hrd : (r : Int) - 0 = x.2.1 := by omega
      rw [hrd]
      by_cases hd : 0 < x.2.1
      · rw [if_pos (.inl hd), if_pos hd]
      · have hne : ¬ (0 < x.2.1 ∨ (s.drop 0).take x.2.1.toNat ≠ []) := fun hh => hh.elim hd fun h => h (List.eq_nil_of_length_eq_zero (by rw [hdl]; omega))
        rw [if_neg hne, if_neg hd]
/-- TrimUndone, plain. -/
theorem undone_law (s : ByteArray) (l : List Ed) (h : checkE s.size l = 0) (hdel : ∀ x ∈ l, x.2.1 ≤ 40) (hI : manyI s.size [l, undoE s.data.toList 0 l] = 0) :
    manyL s.size [l, undoE s.data.toList 0 l] = keepE s.data.toList l ∧ checkE s.size (manyL s.size [l, undoE s.data.toList 0 l]) = 0 ∧ apT s (manyL s.size [l, undoE s.data.toList 0 l]) = s := by
  obtain ⟨t, h1, h2, h3⟩ := same_law s _ hI
  obtain ⟨p1, p2, p3, p4⟩ := edit_undone s.data.toList l h hdel
  obtain ⟨k0, k1, k2, k3, k4⟩ := checkE_ok h
  have hs : s.data.toList.length = s.size := rfl
  have hc0 : (cells0 s.size).length = s.size := cells0_length _
  refine ⟨?_, h2, h3.trans ?_⟩
  · have hl2 : (applyC (cells0 s.size) 0 l).length = (app s.data.toList 0 l).length := by
      have := congrArg List.length (dec_apply s.data.toList (cells0 s.size) l 0)
      rw [List.length_map] at this
      rw [this, show (cells0 s.size).map (dec s.data.toList) = s.data.toList from dec_cells0 s.data.toList]
    have hu := undo_cells (n := s.size) (s := s.data.toList) (T := applyC (cells0 s.size) 0 l) (l := l) (f := true) (e := 0) (m := 0) k3 (fun _ => rfl) (by decide) (by omega) (by simp)
    unfold manyL
    rw [Int.toNat_natCast, cellsE, hc0, if_neg (by simpa using h), cellsE, hl2, if_neg (by simpa using p1), cellsE]
    rw [show ((0 : Nat) : Int) + 0 = 0 from rfl, Int.toNat_zero] at hu
    simp only
    rw [hu]
    exact undone_list hs l k3
  · simp only [allT] at h1
    rw [if_neg (by simpa using h)] at h1
    have : (apT s l).size = (app s.data.toList 0 l).length := rfl
    rw [this, if_neg (by simpa using p1)] at h1
    injection h1 with h1
    rw [← h1]
    unfold apT
    simp only [p2]
theorem keep_ok {s : ByteArray} {l : List Ed} (h : checkE s.size l = 0) (z : Ed) (hz : z ∈ keepE s.data.toList l) :
    (∃ i q : Nat, z.1 = i ∧ z.1 + z.2.1 = q ∧ i ≤ q ∧ q ≤ s.size ∧ s.extract i q = z.2.2) ∧ z.2.1 = z.2.2.size ∧ (l.any fun y => decide (y.1 = z.1) && decide (y.2.1 = z.2.1)) = true := by
  obtain ⟨k0, k1, k2, k3, k4⟩ := checkE_ok h
  obtain ⟨x, hx, rfl⟩ := keep_mem _ _ _ hz
  obtain ⟨o1, o2, o3, o4⟩ := ok_all k1 k3 x hx
  obtain ⟨i, hi⟩ : ∃ i : Nat, x.1 = i := ⟨x.1.toNat, by omega⟩
  obtain ⟨d, hd⟩ : ∃ i : Nat, x.2.1 = i := ⟨x.2.1.toNat, by omega⟩
  refine ⟨⟨i, i + d, hi, by simp only; omega, by omega, by omega, ?_⟩, ?_, ?_⟩
  · have : (s.extract i (i + d)).data.toList = (s.data.toList.drop i).take d := by rw [Lib.extract_data, show i + d - i = d from by omega]
    simp only
    rw [hi, hd, Int.toNat_natCast, Int.toNat_natCast, ← e8_of (s.extract i (i + d)), this]
  · simp only
    have hs : s.data.toList.length = s.size := rfl
    rw [e8_size, List.length_take, List.length_drop]; omega
  · rw [List.any_eq_true]
    exact ⟨x, hx, by simp⟩
end Go.Proofs.Ytookbaaicpapnaa
