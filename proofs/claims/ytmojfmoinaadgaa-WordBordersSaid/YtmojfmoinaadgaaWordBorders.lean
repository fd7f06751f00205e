/- WordBorders' walk: periods and borders determine each other, and borders of borders are all borders. -/
import Derived.Test.YtmojfmoinaadgaaWordLaws
namespace Go.Proofs.Ytmojfmoinaadgaa
open Go.RowKit
set_option linter.unusedVariables false

theorem border_same {s : ByteArray} {k : Nat} (h : Bd s.data.toList s.size k) : s.extract 0 k = s.extract (s.size - k) s.size := by
  have hsl : s.data.toList.length = s.size := rfl
  have hk := h.1
  refine ba_ext ?_
  rw [Lib.extract_data, Lib.extract_data, Nat.sub_zero, List.drop_zero]
  refine ext_getD _ _ 0 (by rw [List.length_take, List.length_take, List.length_drop]; omega) fun j hj => ?_
  rw [List.length_take] at hj
  rw [getD_take _ _ _ _ (by omega), getD_take _ _ _ _ (by omega), getD_drop]
  exact h.2 j (by omega)

set_option maxRecDepth 100000 in
set_option maxHeartbeats 2000000 in
theorem wordBorders_walk (s : ByteArray) (hs0 : s.size ≤ 140737488351232) (w : World) :
    Calls Try.prog 4 #[.string s] w fun e w' => e = .returned (.bool true) ∧ Below w.heap.size w w' := by
  by_cases hs : s.size ≤ 200
  case neg =>
    go_enter Try.func4, Try.ntmps4
    go_wp2_with fail
    refine (words_any _).mono ?_
    rintro e w1 ⟨rfl, hb1⟩
    go_wp2_with fail
    refine (borders_no s (by omega) _).mono ?_
    rintro e w2 ⟨rfl, rfl⟩
    go_wp2_with fail
    refine (periods_no s (by omega) _).mono ?_
    rintro e w2 ⟨rfl, rfl⟩
    go_wp2
    go_ret
    exact ⟨rfl, hb1⟩
  have hsl : s.data.toList.length = s.size := rfl
  have H1 := Lib.hid (borders_ok s hs)
  have H2 := Lib.hid (periods_ok s hs)
  by_cases h0 : s.size = 0
  · have q0 : s.toList = [] := by rw [ByteArray.toList_eq]; exact List.eq_nil_of_length_eq_zero h0
    have q0' : (!s.toList.isEmpty) = false := by rw [q0]; rfl
    have q0'' : (s.toList == []) = true := by rw [q0]; rfl
    have hp : (nI (periodsOf s.data.toList)).length = 0 := by rw [nI_length]; unfold periodsOf; rw [if_pos (by rw [hsl]; exact h0)]; rfl
    have hq : ((s.size : Int) + 0 == 0) = true := by rw [h0]; rfl
    have hq2 : ((s.size : Int) == 0) = true := by rw [h0]; rfl
    have Hp := Lib.hid hp
    clear hp hsl
    go_enter Try.func4, Try.ntmps4
    go_wp2_with fail
    refine (words_any _).mono ?_
    rintro e w1 ⟨rfl, hb1⟩
    go_wp2_with fail
    refine (H1.out _).mono ?_
    rintro e w2 ⟨A, rfl, hr2, hb2⟩
    go_wp2_with fail
    refine (H2.out _).mono ?_
    rintro e w3 ⟨A3, c3, rfl, hr3, hb3, _⟩
    rw [Hp.out]
    have hbw := chain hb3 (chain hb2 hb1)
    clear h0 hr2 hr3
    go_wp2
    go_ret
    exact ⟨rfl, hbw⟩
  have q0 : s.toList.isEmpty = false := by
    rw [ByteArray.toList_eq, List.isEmpty_eq_false_iff]
    intro h
    exact h0 (by rw [← hsl, h]; rfl)
  have q0' : (s.toList == []) = false := by
    rw [beq_eq_false_iff_ne]; intro h; rw [h] at q0; cases q0
  have q9 : ((s.size : Int) != (s.size : Int)) = false := by simp
  have hpn := pi_lt s.data.toList (p := s.size) (by omega)
  have hpb := pi_bd s.data.toList (p := s.size) (by omega)
  have hper : periodsOf s.data.toList = pchain s.data.toList s.size (pi s.data.toList s.size) ++ [s.size] := by unfold periodsOf; rw [if_neg (by rw [hsl]; exact h0), hsl]
  have hbl := bordersOf_length s.data.toList
  have hba := bordersOf_at s.data.toList
  have hplen := periods_length s.data.toList
  rw [hsl] at hplen
  obtain ⟨n', hn'⟩ : ∃ n', s.size - 1 = n' := ⟨_, rfl⟩
  have hns : n' < s.size := by omega
  have en : (s.size : Int) - 1 = (n' : Int) := by omega
  have hlast : (bordersOf s.data.toList).getD n' 0 = ((pi s.data.toList s.size : Nat) : Int) := by rw [hba n' hns, show n' + 1 = s.size from by omega]
  have hnl := nI_length (periodsOf s.data.toList)
  generalize bordersOf s.data.toList = bo at *
  generalize periodsOf s.data.toList = P at *
  generalize hK : pi s.data.toList s.size = K at *
  have HK := Lib.hid hK
  have Hper := Lib.hid hper
  have Hbl := Lib.hid hbl
  have Hba := Lib.hid hba
  have Hlast := Lib.hid hlast
  have Hpb := Lib.hid hpb
  clear hper hbl hba hn' hlast hsl h0 hK hpb
  go_enter Try.func4, Try.ntmps4
  go_wp2_with fail
  refine (words_any _).mono ?_
  rintro e w1 ⟨rfl, hb1⟩
  go_wp2_with fail
  refine (H1.out _).mono ?_
  rintro e w2 ⟨A, rfl, hr2, hb2⟩
  go_wp2_with fail
  refine (H2.out _).mono ?_
  rintro e w3 ⟨A3, c3, rfl, hr3, hb3, _⟩
  have hbw := chain hb3 (chain hb2 hb1)
  have hr2' := hr2.after hb3
  obtain ⟨N, hN⟩ : ∃ N, (nI P).length = N := ⟨_, rfl⟩
  rw [hN] at hr3 hnl ⊢
  rw [← hnl] at hplen
  have HN := Lib.hid hnl
  clear hr2 hb1 hb2 hb3 hN hnl
  obtain ⟨b, o, rfl, hbB, hc⟩ := hr2'.2 (by omega)
  have hcell : ∀ j, j < s.size → w3.cell? ⟨b, o + j, none⟩ = some (.int .i64 (bo.getD j 0)) := fun j hj => by
    have c0 := hc (j * 1 + 0) (by rw [flat_length cInt 1 cInt_len, Hbl.out]; show j * 1 + 0 < s.size * 1; omega)
    rw [flat_getD cInt 1 cInt_len 0 bo j _ (by rw [Hbl.out]; exact hj) (by omega)] at c0
    simpa [cInt] using c0
  have c0 := hcell n' hns
  rw [Hlast.out] at c0
  have Hcell := Lib.hid hcell
  have hpcell : ∀ j, j < N → ∃ b o, A3 = some ⟨b, o, none⟩ ∧ w3.cell? ⟨b, o + j, none⟩ = some (.int .i64 ((P.getD j 0 : Nat) : Int)) := fun j hj => by
    obtain ⟨b, o, hA, hbB, hc⟩ := hr3.2 (by omega)
    refine ⟨b, o, hA, ?_⟩
    have c0 := hc (j * 1 + 0) (by rw [flat_length cInt 1 cInt_len, nI_length, ← HN.out]; omega)
    rw [flat_getD cInt 1 cInt_len 0 (nI P) j _ (by rw [nI_length, ← HN.out]; exact hj) (by omega)] at c0
    have e0 : (nI P).getD j 0 = ((P.getD j 0 : Nat) : Int) := getD_map (fun p : Nat => (p : Int)) P j 0
    simp only [cInt, List.getD_cons_zero, Nat.mul_one, Nat.add_zero] at c0
    rw [e0] at c0
    exact c0
  have Hpcell := Lib.hid hpcell
  clear hcell hpcell hc
  go_wp2
  clear en c0
  go_loopw [7, 8] (fun kv mv wr => ∃ (k f m : Nat) (R : List Nat), k < s.size ∧ kv = .int .i64 k ∧ mv = .int .i64 m ∧ Hid (R.length = m) ∧ m + k ≤ s.size ∧ Hid (k ≤ f) ∧ Hid (R ++ pchain s.data.toList f k = pchain s.data.toList s.size K) ∧ Hid (Bd s.data.toList s.size k) ∧
      Below w.heap.size w wr ∧ Hid (∀ a, wr.cell? a = w3.cell? a)) (fun kv _ _ => (intOf kv).toNat)
  case atStart => exact ⟨K, s.size, 0, [], hpn, rfl, rfl, rfl, by omega, Lib.hid (by omega), rfl, Hpb, hbw, Lib.hid fun _ => rfl⟩
  case round =>
    clear hbw
    obtain ⟨k, f, m, R, hk, rfl, rfl, Hm, hmk, Hf, HR, Hbd, hbr, Hsame⟩ := hrel
    have hPN : P = R ++ (pchain s.data.toList f k ++ [s.size]) := by rw [Hper.out, ← HR.out, List.append_assoc]
    by_cases hk0 : 0 < k
    · have q1 : decide ((0 : Int) < (k : Int)) = true := decide_eq_true (by omega)
      obtain ⟨f', rfl⟩ : ∃ f', f = f' + 1 := ⟨f - 1, by have := Hf.out; omega⟩
      have hst : pchain s.data.toList (f' + 1) k = (s.size - k) :: pchain s.data.toList f' (pi s.data.toList k) := by rw [pchain, if_neg (by omega)]; rfl
      obtain ⟨k', hk'⟩ : ∃ k', k - 1 = k' := ⟨_, rfl⟩
      have hks : k' < s.size := by omega
      have ek : (k : Int) - 1 = (k' : Int) := by omega
      have ck := Hcell.out k' hks
      rw [Hba.out k' hks, show k' + 1 = k from by omega, ← Hsame.out] at ck
      have hpk := pi_lt s.data.toList (p := k) hk0
      have hR2 : (R ++ [s.size - k]) ++ pchain s.data.toList f' (pi s.data.toList k) = pchain s.data.toList s.size K := by
        have := HR.out
        rw [hst] at this
        rw [List.append_assoc]; exact this
      rw [hst] at hPN
      have hmN : m < N := by
        rw [HN.out, hPN, List.length_append, List.length_append, List.length_cons, Hm.out]; omega
      have hPm : P.getD m 0 = s.size - k := by
        rw [hPN, getD_app_right _ _ _ _ (by rw [Hm.out]; exact Nat.le_refl _), Hm.out, Nat.sub_self]; rfl
      obtain ⟨b2, o2, rfl, cp⟩ := Hpcell.out m hmN
      rw [hPm, ← Hsame.out] at cp
      have hbd2 : Bd s.data.toList s.size (pi s.data.toList k) := bd_trans Hbd.out (pi_bd _ hk0)
      have hsame := border_same Hbd.out
      obtain ⟨D, hD⟩ : ∃ D, s.size - k = D := ⟨_, rfl⟩
      rw [hD] at cp hsame
      have wD : IntKind.i64.wrap ((s.size : Int) - (k : Int)) = (D : Int) := by rw [IntKind.wrap_i64]; omega
      have eD : (s.size : Int) - (k : Int) = (D : Int) := by omega
      have D1 : (D : Int) ≤ s.size := by omega
      have k1 : (k : Int) ≤ s.size := by omega
      have f1 : decide (s.size ≤ k) = false := decide_eq_false (by omega)
      have f1' : decide ((s.size : Int) ≤ (k : Int)) = false := decide_eq_false (by omega)
      have f2 : decide (N ≤ m) = false := decide_eq_false (by omega)
      have f2' : decide ((N : Int) ≤ (m : Int)) = false := decide_eq_false (by omega)
      have m1 : (m : Int) < (N : Int) := by omega
      have f3 : ((D : Int) != (D : Int)) = false := by simp
      have f4 : ((s.extract 0 k).toList == (s.extract D s.size).toList) = true := by rw [hsame]; simp
      have HR2 := Lib.hid hR2
      have Hbd2 := Lib.hid hbd2
      clear hst hk' hR2 hPN hPm hbd2 hsame hD
      generalize pi s.data.toList k = K1 at *
      go_wp2
      go_quiet (fail)
      go_wp2
      clear ek eD wD
      go_roundw
      case rel =>
        refine ⟨K1, f', m + 1, R ++ [s.size - k], by omega, rfl, by go_num, Lib.hid (by rw [List.length_append, Hm.out]; rfl), by omega, Lib.hid (by have := Hf.out; omega), HR2, Hbd2, below_drewN hbr _, Lib.hid fun a => ?_⟩
        exact Hsame.out a
      case measure => simp [intOf]; omega
    · have q1 : decide ((0 : Int) < (k : Int)) = false := decide_eq_false (by omega)
      have h2 : pchain s.data.toList f k = [] := by
        obtain rfl : k = 0 := by omega
        cases f <;> rfl
      rw [h2, List.nil_append] at hPN
      have hNm : N = m + 1 := by rw [HN.out, hPN, List.length_append, Hm.out]; rfl
      have hPm : P.getD m 0 = s.size := by
        rw [hPN, getD_app_right _ _ _ _ (by rw [Hm.out]; exact Nat.le_refl _), Hm.out, Nat.sub_self]; rfl
      obtain ⟨b2, o2, rfl, cp⟩ := Hpcell.out m (by omega)
      rw [hPm, ← Hsame.out] at cp
      have q2 : ((N : Int) == (m : Int) + 1) = true := by rw [beq_iff_eq]; omega
      have q3 : ((s.size : Int) == (s.size : Int)) = true := by simp
      have hmN : m < N := by omega
      have HNm := Lib.hid hNm
      clear hPN hPm hNm h2
      go_wp2
      go_ret
      exact ⟨rfl, hbr⟩

end Go.Proofs.Ytmojfmoinaadgaa
