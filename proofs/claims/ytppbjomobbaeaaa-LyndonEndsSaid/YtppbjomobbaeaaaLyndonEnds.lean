/- LyndonEnds' walk: a Lyndon word is less than its proper ends; the last word is the least end. -/
import Derived.Test.YtppbjomobbaeaaaLyndonLaws
namespace Go.Proofs.Ytppbjomobbaeaaa
open Go.RowKit
set_option linter.unusedVariables false

set_option maxRecDepth 100000 in
set_option maxHeartbeats 2000000 in
theorem lyndonEnds_walk (s : ByteArray) (at0 : Int) (hs0 : s.size ≤ 140737488351232) (hat : (Lit.int .i64 at0).wf = true) (w : World) :
    Calls Try.prog 3 #[.string s, .int .i64 at0] w fun e w' => e = .returned (.bool true) ∧ Below w.heap.size w w' := by
  by_cases hs : s.size ≤ 200
  case neg =>
    go_enter Try.func3, Try.ntmps3
    go_wp2_with fail
    refine (lyndons_any _).mono ?_
    rintro e w1 ⟨rfl, hb1⟩
    go_wp2_with fail
    refine (is_no s (by omega) _).mono ?_
    rintro e w2 ⟨rfl, rfl⟩
    go_wp2_with fail
    refine (split_no s (by omega) _).mono ?_
    rintro e w2 ⟨rfl, rfl⟩
    go_wp2
    go_ret
    exact ⟨rfl, hb1⟩
  have hsl : s.data.toList.length = s.size := rfl
  have H1 := Lib.hid (is_ok s hs)
  have H2 := Lib.hid (split_ok s hs)
  by_cases h0 : s.size = 0
  · have hnil : s.data.toList = [] := List.eq_nil_of_length_eq_zero h0
    have q0 : s.toList = [] := by rw [ByteArray.toList_eq]; exact hnil
    have q0' : (!s.toList.isEmpty) = false := by rw [q0]; rfl
    have q0'' : (s.toList == []) = true := by rw [q0]; rfl
    have Hnil := Lib.hid hnil
    clear hsl h0 hnil
    go_enter Try.func3, Try.ntmps3
    go_wp2_with fail
    refine (lyndons_any _).mono ?_
    rintro e w1 ⟨rfl, hb1⟩
    go_wp2_with fail
    refine (H1.out _).mono ?_
    rintro e w2 ⟨b, hb, rfl, hb2⟩
    obtain rfl : b = false := by
      rw [Bool.eq_false_iff]
      intro h
      exact (hb.1 h).1 Hnil.out
    go_wp2_with fail
    refine (H2.out _).mono ?_
    rintro e w3 ⟨F, A, c, hF, rfl, hr3, hb3, _⟩
    rw [Hnil.out] at hF
    obtain rfl := cfl_nil hF
    have hbw := chain hb3 (chain hb2 hb1)
    clear hr3 hF hb
    go_wp2
    go_ret
    exact ⟨rfl, hbw⟩
  have q0 : s.toList.isEmpty = false := by
    rw [ByteArray.toList_eq, List.isEmpty_eq_false_iff]
    intro h
    exact h0 (by rw [← hsl, h]; rfl)
  have q0' : (s.toList == []) = false := by
    rw [beq_eq_false_iff_ne]; intro h; rw [h] at q0; cases q0
  obtain ⟨k, hk, hkl⟩ : ∃ k : Nat, at0 % (s.size : Int) = k ∧ k < s.size := by
    have h1 := Int.emod_nonneg at0 (show ((s.size : Int)) ≠ 0 by omega)
    have h2 := Int.emod_lt_of_pos at0 (show 0 < (s.size : Int) by omega)
    exact ⟨(at0 % (s.size : Int)).toNat, by omega, by omega⟩
  have hw1 : ∀ w, Calls Try.prog 18 #[.int .i64 at0, .int .i64 (s.size : Int)] w fun e w' => e = .returned (.int .i64 (k : Int)) ∧ w = w' := fun w => by
    have := within_any at0 (s.size : Int) (by omega) (by omega) w
    rwa [hk] at this
  have Hw1 := Lib.hid hw1
  have hend : (s.extract k s.size).data.toList = s.data.toList.drop k := by
    rw [Lib.extract_data, List.take_of_length_le (by rw [List.length_drop]; exact Nat.le_refl _)]
  have hne : s.data.toList.drop k ≠ [] := by
    intro h
    have := congrArg List.length h
    rw [List.length_drop, hsl, List.length_nil] at this
    omega
  have hsne : s.data.toList ≠ [] := fun h => h0 (by rw [← hsl, h]; rfl)
  have hcut : s.data.toList = s.data.toList.take k ++ s.data.toList.drop k := (List.take_append_drop _ _).symm
  have htk : 0 < k → s.data.toList.take k ≠ [] := fun hk h => by
    have := congrArg List.length h
    rw [List.length_take, hsl, List.length_nil] at this
    omega
  have Hend := Lib.hid hend
  have Hne := Lib.hid hne
  have Hsne := Lib.hid hsne
  have Hcut := Lib.hid hcut
  have Htk := Lib.hid htk
  have hkl' : k ≤ s.size := by omega
  clear hw1 hk hend hne hsne hcut htk hsl
  go_enter Try.func3, Try.ntmps3
  go_wp2_with fail
  refine (lyndons_any _).mono ?_
  rintro e w1 ⟨rfl, hb1⟩
  go_wp2_with fail
  refine (H1.out _).mono ?_
  rintro e w2 ⟨b, hb, rfl, hb2⟩
  go_wp2_with fail
  refine (H2.out _).mono ?_
  rintro e w3 ⟨F, A, c, hF, rfl, hr3, hb3, hc⟩
  have hbw := chain hb3 (chain hb2 hb1)
  have hF0 : F ≠ [] := by
    rintro rfl
    exact Hsne.out hF.flat.symm
  obtain ⟨G, f, rfl⟩ := snoc_of hF0
  have hlast := last_least G f (s.data.toList.take k) (s.data.toList.drop k) hF.lyn hF.fall (by rw [hF.flat]; exact Hcut.out) Hne.out
  obtain ⟨m, hm⟩ : ∃ m, G.length = m := ⟨_, rfl⟩
  have hlen : (G ++ [f]).length = m + 1 := by rw [List.length_append, hm]; rfl
  have hml : m < s.size + 1 := by
    have h1 := cfl_len hF
    rw [hlen] at h1
    have h2 : s.data.toList.length = s.size := rfl
    omega
  rw [hlen] at hr3 hc ⊢
  obtain ⟨b1, o1, rfl, hbB, hcell⟩ := hr3.2 (by omega)
  have c0 : w3.cell? ⟨b1, o1 + m, none⟩ = some (.string (tx f)) := by
    have c0 := hcell (m * 1 + 0) (by rw [flat_length cStr 1 cStr_len, List.length_map, hlen]; omega)
    rw [flat_getD cStr 1 cStr_len ByteArray.empty _ m _ (by rw [List.length_map, hlen]; omega) (by omega)] at c0
    simp only [cStr, List.getD_cons_zero, Nat.mul_one, Nat.add_zero] at c0
    rw [c0]
    rw [List.map_append, List.getD_eq_getElem?_getD, List.getElem?_append_right (by rw [List.length_map, hm]; exact Nat.le_refl _), List.length_map, hm, Nat.sub_self]
    rfl
  have q1 : (Op.bytesLess (tx f).toList (s.extract k s.size).toList || (tx f).toList == (s.extract k s.size).toList) = true := leq_is (by rw [Hend.out, tx_list]; exact hlast)
  have q2 : b = true → 0 < k → Op.bytesLess s.toList (s.extract k s.size).toList = true := fun hb1 hk => less_is (by
    rw [Hend.out]
    exact (hb.1 hb1).2 _ _ Hcut.out (Htk.out hk) Hne.out)
  have hml' : (m : Int) + 1 - 1 = (m : Int) := by omega
  have q1' : k = 0 → (Op.bytesLess (tx f).toList s.toList || (tx f).toList == s.toList) = true := fun h => by
    subst h
    rwa [show s.extract 0 s.size = s from ba_ext (by rw [Lib.extract_data]; simp only [Nat.sub_zero, List.drop_zero]; exact List.take_of_length_le (Nat.le_refl _))] at q1
  have Hb := Lib.hid hb
  have HF := Lib.hid hF
  clear hb hF hF0 hlast hr3 hcell hb1 hb2 hb3 hlen hm
  generalize tx f = F0 at *
  have hkb : b = false ∨ (b = true ∧ k = 0) ∨ (b = true ∧ 0 < k) := by
    cases b
    · exact .inl rfl
    · rcases Nat.eq_zero_or_pos k with h | h
      · exact .inr (.inl ⟨rfl, h⟩)
      · exact .inr (.inr ⟨rfl, h⟩)
  clear Hb
  have i1 : IntKind.i64.wrap (((m + 1 : Nat) : Int) - 1) = (m : Int) := by rw [IntKind.wrap_i64]; omega
  have i2 : (m : Int) < ((m + 1 : Nat) : Int) := by omega
  have i3 : m < m + 1 := by omega
  go_wp2_with fail
  refine (Hw1.out _).mono ?_
  rintro e w4 ⟨rfl, rfl⟩
  rcases hkb with rfl | ⟨rfl, hk0⟩ | ⟨rfl, hk0⟩
  · clear q2 q1'
    go_wp2
    go_quiet (fail)
    go_wp2
    go_ret
    exact ⟨rfl, below_drewN hbw _⟩
  · have q3 : ((k : Int) == 0) = true := by rw [hk0]; rfl
    have q5 := q1' hk0
    clear q2 q1'
    go_wp2
    go_quiet (fail)
    go_wp2
    go_ret
    exact ⟨rfl, below_drewN hbw _⟩
  · have q3 : ((k : Int) == 0) = false := by rw [beq_eq_false_iff_ne]; omega
    have q4 := q2 rfl hk0
    clear q2 q1'
    go_wp2
    go_quiet (fail)
    go_wp2
    go_ret
    exact ⟨rfl, below_drewN hbw _⟩

end Go.Proofs.Ytppbjomobbaeaaa
