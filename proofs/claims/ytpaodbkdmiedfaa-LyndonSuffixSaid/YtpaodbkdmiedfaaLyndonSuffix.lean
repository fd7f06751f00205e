/- LyndonSuffix's walk: the least end is the last Lyndon factor; the factors' places fall in the order of ends. -/
import Derived.Test.YtpaodbkdmiedfaaEnds
import Derived.Test.YtpaodbkdmiedfaaLyndonLaws
import Derived.Test.YtpaodbkdmiedfaaLynSufP
import Derived.Test.YtpaodbkdmiedfaaContains
namespace Go.Proofs.Ytpaodbkdmiedfaa
open Go.RowKit
set_option linter.unusedVariables false

theorem idx_order {s : List UInt8} {r a : Nat} (hr : r < s.length) (e : (sOrd s).getD r 0 = a) : idxI (a : Int) (natsI (sOrd s)) = (r : Nat) := by
  have hO := sOrd_is s
  refine idxI_found (d := 0) (by rw [natsI_len, hO.len]; exact hr) (by rw [natsI_getD _ _ (by rw [hO.len]; exact hr), e]) fun hm => ?_
  obtain ⟨j, hj, hv⟩ := List.getElem_of_mem hm
  rw [List.length_take, natsI_len, hO.len] at hj
  rw [List.getElem_take] at hv
  have : (natsI (sOrd s)).getD j 0 = (a : Int) := by rw [getD_some _ _ _ (by rw [natsI_len, hO.len]; omega)]; exact hv
  rw [natsI_getD _ _ (by rw [hO.len]; omega)] at this
  have := hO.inj (show j < s.length by omega) hr (by omega)
  omega

set_option maxRecDepth 100000 in
set_option maxHeartbeats 4000000 in
theorem lyndonSuffix_walk (s : ByteArray) (hs0 : s.size ≤ 140737488351232) (w : World) :
    Calls Try.prog 6 #[.string s] w fun e w' => e = .returned (.bool true) ∧ Below w.heap.size w w' := by
  by_cases hs : s.size ≤ 200
  case neg =>
    have H2 := Lib.hid (order_no s (by omega))
    have H1 := Lib.hid (split_no s (by omega))
    clear hs
    go_enter Try.func6, Try.ntmps6
    go_wp2_with fail
    refine (lyndons_any _).mono ?_
    rintro e w1 ⟨rfl, hb1⟩
    go_wp2_with fail
    refine (ends_any _).mono ?_
    rintro e w2 ⟨rfl, hb2⟩
    have hb2 := chain hb2 hb1
    go_wp2_with fail
    refine (H1.out _).mono ?_
    rintro e w3 ⟨rfl, rfl⟩
    go_wp2_with fail
    refine (H2.out _).mono ?_
    rintro e w4 ⟨rfl, hb4⟩
    have hb4 := chain hb4 hb2
    go_wp2
    go_ret
    exact ⟨rfl, hb4⟩
  have hsl : s.data.toList.length = s.size := rfl
  have H1 := Lib.hid (split_ok s hs)
  have H2 := Lib.hid (order_ok s hs)
  by_cases h0 : s.size = 0
  · have hnil : s.data.toList = [] := List.eq_nil_of_length_eq_zero h0
    have q0 : s.toList = [] := by rw [ByteArray.toList_eq]; exact hnil
    have q0' : (s.toList == []) = true := by rw [q0]; rfl
    have Hnil := Lib.hid hnil
    have H0 := Lib.hid h0
    clear hsl h0 hnil
    go_enter Try.func6, Try.ntmps6
    go_wp2_with fail
    refine (lyndons_any _).mono ?_
    rintro e w1 ⟨rfl, hb1⟩
    go_wp2_with fail
    refine (ends_any _).mono ?_
    rintro e w2 ⟨rfl, hb2⟩
    have hb2 := chain hb2 hb1
    go_wp2_with fail
    refine (H1.out _).mono ?_
    rintro e w3 ⟨F, A, c, hF, rfl, hr3, hb3, _⟩
    rw [Hnil.out] at hF
    obtain rfl := cfl_nil hF
    have hb3 := chain hb3 hb2
    clear hr3 hF hb1 hb2
    go_wp2_with fail
    refine (H2.out _).mono ?_
    rintro e w4 ⟨g, rfl, hg, hi4, hb4⟩
    have hb4 := chain hb4 hb3
    have hz : s.size = 0 := H0.out
    clear hi4
    generalize s.size = n at *
    subst hz
    go_wp2
    go_ret
    exact ⟨rfl, hb4⟩
  have q0 : s.toList.isEmpty = false := by
    rw [ByteArray.toList_eq, List.isEmpty_eq_false_iff]
    intro h
    exact h0 (by rw [← hsl, h]; rfl)
  have q0' : (s.toList == []) = false := by
    rw [beq_eq_false_iff_ne]; intro h; rw [h] at q0; cases q0
  have hsne : s.data.toList ≠ [] := fun h => h0 (by rw [← hsl, h]; rfl)
  have Hsne := Lib.hid hsne
  have HO := Lib.hid (sOrd_is s.data.toList)
  clear hsl hsne
  go_enter Try.func6, Try.ntmps6
  go_wp2_with fail
  refine (lyndons_any _).mono ?_
  rintro e w1 ⟨rfl, hb1⟩
  go_wp2_with fail
  refine (ends_any _).mono ?_
  rintro e w2 ⟨rfl, hb2⟩
  have hb2 := chain hb2 hb1
  go_wp2_with fail
  refine (H1.out _).mono ?_
  rintro e w3 ⟨F, A, c, hF, rfl, hr3, hb3, hc⟩
  have hF0 : F ≠ [] := by
    rintro rfl
    exact Hsne.out hF.flat.symm
  have hm0 := List.length_pos_iff.2 hF0
  have hml := cfl_len hF
  rw [show s.data.toList.length = s.size from rfl] at hml
  obtain ⟨m, hm⟩ : ∃ m, F.length = m := ⟨_, rfl⟩
  have HF := Lib.hid hF
  have Hm := Lib.hid hm
  rw [hm] at hr3 hc hm0 hml ⊢
  have hb3 := chain hb3 hb2
  clear hF hF0 hm hb1 hb2
  go_wp2_with fail
  refine (H2.out _).mono ?_
  rintro e w4 ⟨g, rfl, hg, hi4, hb4⟩
  have hr4 := hr3.after hb4
  have ho4 := hi4.row (n := s.size) (by rw [natsI_len, HO.out.len]; rfl)
  have hb4 := chain hb4 hb3
  clear hr3 hi4 hb3 H1 H2
  have q1 : ((m : Int) == 0) = false := by rw [beq_eq_false_iff_ne]; omega
  have q2 : ((s.size : Int) != (s.size : Int)) = false := by simp
  go_wp2
  go_loopw [7, 8, 10, 11, 63] (fun av lv _ _ iv wr => ∃ (j a la : Nat), j ≤ m ∧ a ≤ s.size ∧ la ≤ s.size ∧ iv = .int .i64 j ∧ av = .int .i64 a ∧ lv = .int .i64 la ∧ Hid (a = atF F j) ∧ Hid ((j = 0 ∧ la = s.size) ∨ (0 < j ∧ la < s.size ∧ (sOrd s.data.toList).getD la 0 = atF F (j - 1))) ∧ wr = w4) (fun _ _ _ _ iv _ => m - (intOf iv).toNat)
  case atStart => exact ⟨0, 0, s.size, Nat.zero_le _, Nat.zero_le _, Nat.le_refl _, rfl, rfl, rfl, Lib.hid rfl, Lib.hid (.inl ⟨rfl, rfl⟩), rfl⟩
  case round =>
    obtain ⟨j, a, la, hj, ha, hla, rfl, rfl, rfl, Ha, Hla, rfl⟩ := hrel
    by_cases hlt : j < m
    · obtain ⟨b, o, rfl, hbB, hcl⟩ := hr4.2 (by omega)
      have c0 := hcl (j * 1 + 0) (by rw [flat_length cStr 1 cStr_len, List.length_map, Hm.out]; omega)
      rw [flat_getD cStr 1 cStr_len ByteArray.empty _ j _ (by rw [List.length_map, Hm.out]; omega) (by omega)] at c0
      simp only [cStr, List.getD_cons_zero, Nat.mul_one, Nat.add_zero] at c0
      have hx : ((F.map tx).getD j ByteArray.empty).size = (F.getD j []).length := by
        rw [List.getD_eq_getElem?_getD, List.getElem?_map, List.getD_eq_getElem?_getD, List.getElem?_eq_getElem (by rw [Hm.out]; exact hlt)]; rfl
      have hsc := atF_succ F (show j < F.length by rw [Hm.out]; exact hlt)
      have hat := cfl_at_lt HF.out (show j < F.length by rw [Hm.out]; exact hlt)
      rw [← Ha.out] at hat
      have hat2 : atF F (j + 1) ≤ s.size := by
        have h1 : atF F (j + 1) ≤ s.data.toList.length := by
          rcases Nat.lt_or_ge (j + 1) F.length with h | h
          · exact Nat.le_of_lt (cfl_at_lt HF.out h)
          · have : j + 1 = F.length := by have := Hm.out; omega
            rw [this, cfl_at_end HF.out]; exact Nat.le_refl _
        exact h1
      rw [hsc, ← hx, ← Ha.out] at hat2
      obtain ⟨r, hr, hra⟩ := HO.out.find hat
      have hix := idx_order hr hra
      have hrs : r < s.size := hr
      have hrl : r < la := by
        rcases Hla.out with ⟨h1, h2⟩ | ⟨h1, h2, h3⟩
        · omega
        · obtain ⟨jj, rfl⟩ : ∃ jj, j = jj + 1 := ⟨j - 1, by omega⟩
          exact cfl_fall HF.out HO.out (k := jj) (by rw [Hm.out]; exact hlt) h2 hr h3 (by rw [hra, Ha.out])
      have HI := Lib.hid (indexInt_any (a : Int) (some ⟨g, 0, none⟩) s.size s.size wr.heap.size _ wr (by omega) (by rw [natsI_len, HO.out.len]; rfl) ho4)
      rw [hix] at HI
      have hnext : a + ((F.map tx).getD j ByteArray.empty).size = atF F (j + 1) := by rw [hsc, hx, Ha.out]
      have Hnext := Lib.hid hnext
      have Hra := Lib.hid hra
      have q3 : decide ((r : Int) < 0) = false := decide_eq_false (by omega)
      have q4 : decide ((la : Int) ≤ (r : Int)) = false := decide_eq_false (by omega)
      have q4' : decide (la ≤ r) = false := decide_eq_false (by omega)
      have has : a < s.size := hat
      clear hcl hx hsc hat hix hr hra hnext
      generalize (F.map tx).getD j ByteArray.empty = x at *
      go_wp2_with fail
      refine HI.out.mono ?_
      rintro e w5 ⟨rfl, rfl⟩
      go_wp2
      go_roundw
      case rel => exact ⟨j + 1, a + x.size, r, by omega, hat2, by omega, by go_num, by go_num, rfl, Lib.hid Hnext.out, Lib.hid (.inr ⟨by omega, hrs, by rw [Hra.out, Ha.out]; rfl⟩), trivial⟩
      case measure => simp [intOf]; omega
    · obtain rfl : j = m := by omega
      have hl0 : la = 0 := by
        rcases Hla.out with ⟨h1, _⟩ | ⟨_, h2, h3⟩
        · omega
        · exact cfl_rank HF.out HO.out (by rw [Hm.out]; exact hm0) h2 (by rw [h3, Hm.out])
      have ha1 : a = s.size := by
        rw [Ha.out, ← Hm.out, cfl_at_end HF.out]; rfl
      subst hl0
      have q5 : ((a : Int) == (s.size : Int)) = true := by simp [ha1]
      have HA1 := Lib.hid ha1
      clear ha1
      go_wp2
      go_ret
      exact ⟨by simp [HA1.out], hb4⟩
end Go.Proofs.Ytpaodbkdmiedfaa
