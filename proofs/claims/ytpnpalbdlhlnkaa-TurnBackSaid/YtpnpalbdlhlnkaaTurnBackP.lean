/- Plain: the transform of a word is inverted, and permutes its bytes. -/
import Derived.Test.YtpnpalbdlhlnkaaTurnP
namespace Go.Proofs.Ytpnpalbdlhlnkaa
set_option linter.unusedVariables false

theorem llt_snoc (c : UInt8) : ∀ (a b : List UInt8), a.length = b.length → llt (a ++ [c]) (b ++ [c]) = llt a b
  | [], [], _ => llt_irrefl [c]
  | x :: a, y :: b, h => by
    have ih := llt_snoc c a b (by simpa using h)
    rw [Bool.eq_iff_iff]
    rw [List.cons_append, List.cons_append, llt_cons, llt_cons, ih]
theorem lle_turn {a b : List UInt8} {c : UInt8} (hl : a.length = b.length) (h : lle (a ++ [c]) (b ++ [c])) : lle (c :: a) (c :: b) := by
  unfold lle at h ⊢
  rw [llt_snoc c b a hl.symm] at h
  rw [Bool.eq_false_iff, Ne, llt_cons]
  rintro (hh | ⟨_, hh⟩)
  · exact u8_irrefl _ hh
  · rw [h] at hh; cases hh
/-- A word as all but its last byte, and that. -/
theorem split_last {x : List UInt8} {n : Nat} (hx : x.length = n + 1) : x = x.take n ++ [x.getD n 0] := by
  conv => lhs; rw [← List.take_append_drop n x]
  congr 1
  rw [List.drop_eq_getElem_cons (by omega), List.drop_eq_nil_of_le (by omega), List.getD_eq_getElem?_getD, List.getElem?_eq_getElem (by omega)]
  rfl
theorem rotL_back {x : List UInt8} {n : Nat} (hx : x.length = n + 1) : rotL x n = x.getD n 0 :: x.take n := by
  unfold rotL
  have := split_last hx
  have e : x.drop n = [x.getD n 0] := by
    rw [List.drop_eq_getElem_cons (by omega), List.drop_eq_nil_of_le (by omega), List.getD_eq_getElem?_getD, List.getElem?_eq_getElem (by omega)]
    rfl
  rw [e]; rfl
section
variable {s : List UInt8} {o l : List Nat} {n : Nat}
theorem row_at (ho : IsOrd s o) {k : Nat} (hk : k < s.length) : (rowsR s o).getD k [] = rotL s (o.getD k 0) := by
  have hl := ho.len
  unfold rowsR
  rw [List.getD_eq_getElem?_getD, List.getElem?_map, List.getElem?_eq_getElem (by omega), List.getD_eq_getElem?_getD, List.getElem?_eq_getElem (by omega)]
  rfl
theorem row_len (ho : IsOrd s o) {k : Nat} (hk : k < s.length) : ((rowsR s o).getD k []).length = s.length := by rw [row_at ho hk, rotL_len]
theorem last_at (ho : IsOrd s o) {k : Nat} (hk : k < s.length) : (lastB s o).getD k 0 = ((rowsR s o).getD k []).getD (s.length - 1) 0 := by
  have hl := ho.len
  rw [lastB_rows fun i hi => ho.lt hi]
  have hr : (rowsR s o).length = s.length := by unfold rowsR; rw [List.length_map, hl]
  rw [List.getD_eq_getElem?_getD, List.getElem?_map, List.getElem?_eq_getElem (by omega), List.getD_eq_getElem?_getD (l := rowsR s o), List.getElem?_eq_getElem (by omega)]
  rfl
/-- Each row is the row of its successor, turned back by one. -/
theorem rows_step (hs : s.length = n + 1) (ho : IsOrd s o) (hl : IsOrdB (lastB s o) l) : l.map (fun j => rotL ((rowsR s o).getD j []) n) = rowsR s o := by
  have hol := ho.len
  have hrl : (rowsR s o).length = s.length := by unfold rowsR; rw [List.length_map, hol]
  have htl : (lastB s o).length = s.length := by unfold lastB; rw [List.length_map, hol]
  have hlp := hl.perm
  rw [htl] at hlp
  refine sorted_eq (R := lle) (fun a b h1 h2 => lle_antisymm h1 h2) ?_ ?_ ho.rows_sorted
  · have e1 : (List.range s.length).map (fun j => rotL ((rowsR s o).getD j []) n) = (rowsR s o).map fun x => rotL x n := by
      refine List.ext_getElem (by simp [hrl]) fun i h1 h2 => ?_
      have hi : i < (rowsR s o).length := by simpa using h2
      rw [List.getElem_map, List.getElem_map, List.getElem_range, List.getD_eq_getElem?_getD, List.getElem?_eq_getElem hi]
      rfl
    have e2 : (turnsL s).map (fun x => rotL x n) = turnsL (rotL s n) := by
      unfold turnsL
      rw [List.map_map, rotL_len]
      refine List.map_congr_left fun i hi => ?_
      have hi := List.mem_range.1 hi
      show rotL (rotL s i) n = _
      rw [rotL_rotL (by omega) (by omega), rotL_rotL (by omega) hi, Nat.add_comm]
    have p1 := hlp.map fun j => rotL ((rowsR s o).getD j []) n
    rw [e1] at p1
    have p2 := ho.rows_perm.map fun x => rotL x n
    rw [e2] at p2
    exact p1.trans (p2.trans ((turns_perm s (by omega)).trans ho.rows_perm.symm))
  · refine List.pairwise_map.2 (hl.sorted.imp_of_mem fun {i k} hi hk h => ?_)
    have hi := hl.lt hi
    have hk := hl.lt hk
    rw [htl] at hi hk
    have li := row_len ho hi
    have lk := row_len ho hk
    have ti := last_at ho hi
    have tk := last_at ho hk
    rw [hs] at li lk
    have hn1 : s.length - 1 = n := by omega
    rw [hn1] at ti tk
    rw [rotL_back li, rotL_back lk, ← ti, ← tk]
    rcases h with h | ⟨h, hik⟩
    · exact lle_of_lt ((llt_cons _ _ _ _).2 (.inl h))
    · rw [h]
      refine lle_turn (by rw [List.length_take, List.length_take]; omega) ?_
      have hw := List.pairwise_iff_getElem.1 ho.rows_sorted i k (by omega) (by omega) hik
      have gi : (rowsR s o).getD i [] = (rowsR s o)[i] := by rw [List.getD_eq_getElem?_getD, List.getElem?_eq_getElem (by omega)]; rfl
      have gk : (rowsR s o).getD k [] = (rowsR s o)[k] := by rw [List.getD_eq_getElem?_getD, List.getElem?_eq_getElem (by omega)]; rfl
      rw [← gi, ← gk, split_last li, split_last lk, ← ti, ← tk, h] at hw
      exact hw
theorem step_at (hs : s.length = n + 1) (ho : IsOrd s o) (hl : IsOrdB (lastB s o) l) {k : Nat} (hk : k < s.length) : l.getD k 0 < s.length ∧ (rowsR s o).getD k [] = (lastB s o).getD (l.getD k 0) 0 :: ((rowsR s o).getD (l.getD k 0) []).take n := by
  have htl : (lastB s o).length = s.length := by unfold lastB; rw [List.length_map, ho.len]
  have hll := hl.len
  have hlk : l.getD k 0 < s.length := by
    rw [← htl]
    refine hl.lt ?_
    rw [List.getD_eq_getElem?_getD, List.getElem?_eq_getElem (by omega)]
    exact List.getElem_mem _
  refine ⟨hlk, ?_⟩
  have h := rows_step hs ho hl
  have e : (l.map fun j => rotL ((rowsR s o).getD j []) n).getD k [] = rotL ((rowsR s o).getD (l.getD k 0) []) n := by
    rw [List.getD_eq_getElem?_getD, List.getElem?_map, List.getElem?_eq_getElem (by omega)]
    show rotL ((rowsR s o).getD l[k] []) n = _
    rw [List.getD_eq_getElem?_getD (l := l), List.getElem?_eq_getElem (by omega)]
    rfl
  rw [h] at e
  have lk := row_len ho hlk
  rw [hs] at lk
  have hn1 : s.length - 1 = n := by omega
  have tk := last_at ho hlk
  rw [hn1] at tk
  rw [e, rotL_back lk, ← tk]
theorem steps_row (hs : s.length = n + 1) (ho : IsOrd s o) (hl : IsOrdB (lastB s o) l) : ∀ (m k : Nat), m ≤ n + 1 → k < s.length → stepsG (lastB s o) l k m = ((rowsR s o).getD k []).take m
  | 0, k, _, _ => by rw [List.take_zero]; rfl
  | m + 1, k, hm, hk => by
    obtain ⟨h1, h2⟩ := step_at hs ho hl hk
    rw [stepsG, steps_row hs ho hl m _ (by omega) h1, h2, List.take_succ_cons, List.take_take, Nat.min_eq_left (by omega)]
/-- The transform of a word is inverted. -/
theorem turn_back (h0 : 0 < s.length) (ho : IsOrd s o) (hl : IsOrdB (lastB s o) l) : stepsG (lastB s o) l (zeroAt o) s.length = s ∧ zeroAt o < s.length := by
  obtain ⟨n, hn⟩ : ∃ n, s.length = n + 1 := ⟨s.length - 1, by omega⟩
  have hm : 0 ∈ o := ho.perm.mem_iff.2 (List.mem_range.2 h0)
  have hz : zeroAt o < s.length := by rw [← ho.len]; exact List.idxOf_lt_length_of_mem hm
  have hz0 : o.getD (zeroAt o) 0 = 0 := by
    have hzl : zeroAt o < o.length := by rw [ho.len]; exact hz
    rw [List.getD_eq_getElem?_getD, List.getElem?_eq_getElem hzl]
    exact List.getElem_idxOf hzl
  refine ⟨?_, hz⟩
  rw [steps_row hn ho hl _ _ (by omega) hz, row_at ho hz, hz0]
  have e : rotL s 0 = s := by unfold rotL; simp
  rw [e, List.take_length]
/-- The bytes of the transform are the word's. -/
theorem last_perm (ho : IsOrd s o) : (lastB s o).Perm s := by
  rcases Nat.eq_zero_or_pos s.length with h0 | h0
  · have e : s = [] := List.length_eq_zero_iff.1 h0
    have e2 : o = [] := List.length_eq_zero_iff.1 (by rw [ho.len, h0])
    rw [e, e2]; exact List.Perm.refl _
  obtain ⟨n, hn⟩ : ∃ n, s.length = n + 1 := ⟨s.length - 1, by omega⟩
  have p1 := ho.perm.map (prevB s)
  have e : (List.range s.length).map (prevB s) = rotL s n := by
    refine List.ext_getElem (by rw [List.length_map, List.length_range, rotL_len]) fun i h1 h2 => ?_
    have hi : i < s.length := by simpa using h1
    rw [List.getElem_map, List.getElem_range]
    have e1 : (rotL s n)[i] = (rotL s n).getD i 0 := by rw [List.getD_eq_getElem?_getD, List.getElem?_eq_getElem h2]; rfl
    refine Eq.trans ?_ e1.symm
    rw [rotL_back hn]
    unfold prevB
    cases i with
    | zero =>
      rw [show 0 + s.length - 1 = n from by omega, getD_app_l _ _ (by omega)]; rfl
    | succ i =>
      rw [show i + 1 + s.length - 1 = s.length + i from by omega, getD_app_r]
      show s.getD i 0 = (s.take n).getD i 0
      rw [List.getD_eq_getElem?_getD, List.getD_eq_getElem?_getD, List.getElem?_take, if_pos (by omega)]
  rw [e] at p1
  refine p1.trans ?_
  unfold rotL
  exact List.perm_append_comm.trans (by rw [List.take_append_drop])
end
end Go.Proofs.Ytpnpalbdlhlnkaa
