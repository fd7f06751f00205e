/- SuffixCommon's walk: ends rise, and two of them begin alike as far as the least number between them tells. -/
import Derived.Test.YtpaodbkdmiedfaaEnds
import Derived.Test.YtpaodbkdmiedfaaKeep
import Derived.Test.YtpaodbkdmiedfaaMinInt
import Derived.Test.YtpaodbkdmiedfaaLyndonLaws
import Derived.BigRegion
namespace Go.Proofs.Ytpaodbkdmiedfaa
open Go.RowKit
set_option linter.unusedVariables false

/-- The least number between two ranks. -/
theorem lcps_min {s : List UInt8} {p q : Nat} (hpq : p < q) (hq : q < s.length) : IsMin (((lcpsI s).drop (p + 1)).take (q - p)) ((lcp (s.drop ((sOrd s).getD p 0)) (s.drop ((sOrd s).getD q 0)) : Nat) : Int) := by
  obtain ⟨h1, j, j1, j2, h2⟩ := (sOrd_is s).range hpq hq
  have hl := lcpsI_len s
  have key : ∀ r, r < q - p → (((lcpsI s).drop (p + 1)).take (q - p)).getD r 0 = ((lcpR s (sOrd s) (p + 1 + r) : Nat) : Int) := fun r hr => by
    rw [getD_take _ _ _ _ hr, getD_drop, lcpsI_getD (by omega)]
  have hlen : (((lcpsI s).drop (p + 1)).take (q - p)).length = q - p := by rw [List.length_take, List.length_drop, hl]; omega
  refine ⟨?_, fun y hy => ?_⟩
  · rw [h2]
    have e := key (j - p - 1) (by omega)
    rw [show p + 1 + (j - p - 1) = j by omega] at e
    rw [← e, getD_some _ _ _ (by rw [hlen]; omega)]
    exact List.getElem_mem _
  · obtain ⟨r, hr, rfl⟩ := List.getElem_of_mem hy
    rw [hlen] at hr
    have e := key r hr
    rw [getD_some _ _ _ (by rw [hlen]; exact hr)] at e
    rw [e]
    exact Int.ofNat_le.2 (h1 (p + 1 + r) (by omega) (by omega))

theorem lcp_moreG {a b : List UInt8} {n : Nat} (h : n ≤ lcp a b) : n < lcp a b ↔ (n < a.length ∧ n < b.length ∧ a.getD n 0 = b.getD n 0) := by
  have l1 := lcp_le a b
  have l2 := lcp_le_r a b
  have ht := lcp_take a b
  constructor
  · intro hn
    refine ⟨by omega, by omega, ?_⟩
    have := congrArg (fun l => l.getD n 0) ht
    simp only [getD_take _ _ _ _ hn] at this
    exact this
  · rintro ⟨h1, h2, h3⟩
    refine Nat.lt_of_lt_of_le (Nat.lt_succ_self n) (lcp_ge h1 h2 ?_)
    have ht2 := congrArg (List.take n) ht
    rw [List.take_take, List.take_take, Nat.min_eq_left h] at ht2
    rw [take_succ_getD _ n 0 h1, take_succ_getD _ n 0 h2, ht2, h3]
theorem IntsAt.part {w : World} {g : Nat} {l : List Int} (h : IntsAt w g l) (p n : Nat) (hn : p + n ≤ l.length) : Reads w w.heap.size (some ⟨g, p, none⟩) n 1 (((l.drop p).take n).flatMap cInt) := by
  have hlen : ((l.drop p).take n).length = n := by rw [List.length_take, List.length_drop]; omega
  refine ⟨by rw [flat_length cInt 1 cInt_len, hlen], fun hn => ⟨g, p, rfl, h.1, fun j hj => ?_⟩⟩
  rw [flat_length cInt 1 cInt_len, Nat.mul_one, hlen] at hj
  rw [(h.2 (p + j) (by omega)).1]
  have := flat_getD cInt 1 cInt_len 0 ((l.drop p).take n) j 0 (by rw [hlen]; exact hj) (by omega)
  rw [Nat.mul_one, Nat.add_zero] at this
  rw [this, getD_take _ _ _ _ hj, getD_drop]; rfl

set_option maxRecDepth 100000 in
set_option maxHeartbeats 8000000 in
theorem suffixCommon_walk (s : ByteArray) (i0 k0 : Int) (hs0 : s.size ≤ 140737488351232) (hi0 : (Lit.int .i64 i0).wf = true) (hk0 : (Lit.int .i64 k0).wf = true) (w : World) :
    Calls Try.prog 5 #[.string s, .int .i64 i0, .int .i64 k0] w fun e w' => e = .returned (.bool true) ∧ Below w.heap.size w w' := by
  by_cases hs : s.size ≤ 200
  case neg =>
    have H1 := Lib.hid (order_no s (by omega))
    have H2 := Lib.hid (common_no s (by omega))
    clear hs
    go_enter Try.func5, Try.ntmps5
    go_wp2_with fail
    refine (ends_any _).mono ?_
    rintro e w2 ⟨rfl, hb2⟩
    go_wp2_with fail
    refine (H1.out _).mono ?_
    rintro e w3 ⟨rfl, hb3⟩
    have hb3 := chain hb3 hb2
    go_wp2_with fail
    refine (H2.out _).mono ?_
    rintro e w4 ⟨rfl, hb4⟩
    have hb4 := chain hb4 hb3
    go_wp2
    go_ret
    exact ⟨rfl, hb4⟩
  have H1 := Lib.hid (order_ok s hs)
  have H2 := Lib.hid (common_ok s hs)
  by_cases h0 : s.size = 0
  · have hnil : s.data.toList = [] := List.eq_nil_of_length_eq_zero h0
    have q0 : s.toList = [] := by rw [ByteArray.toList_eq]; exact hnil
    have q0' : (s.toList == []) = true := by rw [q0]; rfl
    have H0 := Lib.hid h0
    clear h0 hnil hs
    go_enter Try.func5, Try.ntmps5
    go_wp2_with fail
    refine (ends_any _).mono ?_
    rintro e w2 ⟨rfl, hb2⟩
    go_wp2_with fail
    refine (H1.out _).mono ?_
    rintro e w3 ⟨g, rfl, hg, hi3, hb3⟩
    have hb3 := chain hb3 hb2
    clear hi3 hb2
    go_wp2_with fail
    refine (H2.out _).mono ?_
    rintro e w4 ⟨g', rfl, hg', hi4, hb4⟩
    have hb4 := chain hb4 hb3
    have hz : s.size = 0 := H0.out
    clear hi4 hb3
    generalize s.size = n at *
    subst hz
    go_wp2
    go_ret
    exact ⟨rfl, hb4⟩
  have q0 : s.toList.isEmpty = false := by
    rw [ByteArray.toList_eq, List.isEmpty_eq_false_iff]
    intro h
    exact h0 (by show s.data.toList.length = 0; rw [h]; rfl)
  have q0' : (s.toList == []) = false := by
    rw [beq_eq_false_iff_ne]; intro h; rw [h] at q0; cases q0
  obtain ⟨i, hi, hil⟩ : ∃ k : Nat, i0 % (s.size : Int) = k ∧ k < s.size := by
    have h1 := Int.emod_nonneg i0 (show ((s.size : Int)) ≠ 0 by omega)
    have h2 := Int.emod_lt_of_pos i0 (show 0 < (s.size : Int) by omega)
    exact ⟨(i0 % (s.size : Int)).toNat, by omega, by omega⟩
  obtain ⟨k, hk, hkl⟩ : ∃ k : Nat, k0 % (s.size : Int) = k ∧ k < s.size := by
    have h1 := Int.emod_nonneg k0 (show ((s.size : Int)) ≠ 0 by omega)
    have h2 := Int.emod_lt_of_pos k0 (show 0 < (s.size : Int) by omega)
    exact ⟨(k0 % (s.size : Int)).toNat, by omega, by omega⟩
  have hw1 : ∀ w, Calls Try.prog 18 #[.int .i64 i0, .int .i64 (s.size : Int)] w fun e w' => e = .returned (.int .i64 (i : Int)) ∧ w = w' := fun w => by
    have := within_any i0 (s.size : Int) (by omega) (by omega) w
    rwa [hi] at this
  have hw2 : ∀ w, Calls Try.prog 18 #[.int .i64 k0, .int .i64 (s.size : Int)] w fun e w' => e = .returned (.int .i64 (k : Int)) ∧ w = w' := fun w => by
    have := within_any k0 (s.size : Int) (by omega) (by omega) w
    rwa [hk] at this
  have HW1 := Lib.hid hw1
  have HW2 := Lib.hid hw2
  have HO := Lib.hid (sOrd_is s.data.toList)
  clear hw1 hw2 hi hk h0 hi0 hk0
  go_enter Try.func5, Try.ntmps5
  go_wp2_with fail
  refine (ends_any _).mono ?_
  rintro e w2 ⟨rfl, hb2⟩
  go_wp2_with fail
  refine (H1.out _).mono ?_
  rintro e w3 ⟨g, rfl, hg, hi3, hb3⟩
  have hb3 := chain hb3 hb2
  go_wp2_with fail
  refine (H2.out _).mono ?_
  rintro e w4 ⟨g', rfl, hg', hi4, hb4⟩
  have hi3 := hi3.below hb4 hi3.1
  have hb4 := chain hb4 hb3
  clear hb3 hb2 H1 H2 hg hg'
  have q1 : ((s.size : Int) != (s.size : Int)) = false := by simp
  go_wp2_with fail
  refine (HW1.out _).mono ?_
  rintro e w5 ⟨rfl, rfl⟩
  go_wp2_with fail
  refine (HW2.out _).mono ?_
  rintro e w5 ⟨rfl, rfl⟩
  have hcell : ∀ j, j < s.size → w4.cell? ⟨g, j, none⟩ = some (.int .i64 (((sOrd s.data.toList).getD j 0 : Nat) : Int)) ∧ (sOrd s.data.toList).getD j 0 < s.size := fun j hj => by
    have := (hi3.2 j (by rw [natsI_len, HO.out.len]; exact hj)).1
    rw [natsI_getD _ _ (by rw [HO.out.len]; exact hj)] at this
    exact ⟨this, HO.out.at_lt hj⟩
  have Hcell := Lib.hid hcell
  clear hcell hi3
  by_cases hik : i = k
  · subst hik
    obtain ⟨c0, hlt⟩ := Hcell.out i hil
    have q2 : ((i : Int) == (i : Int)) = true := by simp
    clear hi4
    generalize (sOrd s.data.toList).getD i 0 = x at *
    have q3 : decide ((0 : Int) ≤ x) = true := decide_eq_true (by omega)
    have q4 : decide ((x : Int) < (s.size : Int)) = true := decide_eq_true (by omega)
    have hin : (i : Int) < s.size := by omega
    go_wp2
    all_goals (go_ret; exact ⟨by simp, hb4⟩)
  have q2 : ((i : Int) == (k : Int)) = false := by rw [beq_eq_false_iff_ne]; omega
  obtain ⟨p, q, hpq, hql, hmn, hmx⟩ : ∃ p q : Nat, p < q ∧ q < s.size ∧ (∀ (ats : Array TypeId) (t : TypeId) (w : World), (Builtin.min_ ats t #[.int .i64 (i : Int), .int .i64 (k : Int)]).run Try.prog w = .ok (.int .i64 (p : Int)) w) ∧
      (∀ (ats : Array TypeId) (t : TypeId) (w : World), (Builtin.max_ ats t #[.int .i64 (i : Int), .int .i64 (k : Int)]).run Try.prog w = .ok (.int .i64 (q : Int)) w) := by
    rcases Nat.lt_or_ge i k with h | h
    · exact ⟨i, k, h, hkl, fun ats t w => by rw [run_min_int2, if_neg (by omega)], fun ats t w => by rw [run_max_int2, if_pos (by omega)]⟩
    · exact ⟨k, i, by omega, hil, fun ats t w => by rw [run_min_int2, if_pos (by omega)], fun ats t w => by rw [run_max_int2, if_neg (by omega)]⟩
  obtain ⟨c0, ha⟩ := Hcell.out p (by omega)
  obtain ⟨c1, hb⟩ := Hcell.out q hql
  have hlt := HO.out.at_ hpq hql
  have hmin := lcps_min (s := s.data.toList) hpq hql
  obtain ⟨L, hL⟩ : ∃ L, L = lcp (s.data.toList.drop ((sOrd s.data.toList).getD p 0)) (s.data.toList.drop ((sOrd s.data.toList).getD q 0)) := ⟨_, rfl⟩
  rw [← hL] at hmin
  generalize (sOrd s.data.toList).getD p 0 = a at *
  generalize (sOrd s.data.toList).getD q 0 = b at *
  have hm2 : ∀ (ats : Array TypeId) (t : TypeId) (w : World), (Builtin.min_ ats t #[.int .i64 (a : Int), .int .i64 (b : Int)]).run Try.prog w = .ok (.int .i64 ((min a b : Nat) : Int)) w := fun ats t w => by
    rw [run_min_int2]; congr 2; omega
  have hx2 : ∀ (ats : Array TypeId) (t : TypeId) (w : World), (Builtin.max_ ats t #[.int .i64 (a : Int), .int .i64 (b : Int)]).run Try.prog w = .ok (.int .i64 ((max a b : Nat) : Int)) w := fun ats t w => by
    rw [run_max_int2]; congr 2; omega
  have q5 : decide (((min a b : Nat) : Int) < 0) = false := decide_eq_false (by omega)
  have q6 : decide ((s.size : Int) ≤ ((max a b : Nat) : Int)) = false := decide_eq_false (by omega)
  have q6' : decide (s.size ≤ max a b) = false := decide_eq_false (by omega)
  have hp1 : (p : Int) < s.size := by omega
  have hq1 : (q : Int) < s.size := by omega
  have hp1' : p < s.size := by omega
  have ha1 : (a : Int) ≤ s.size := by omega
  have hb1 : (b : Int) ≤ s.size := by omega
  have Hlt := Lib.hid hlt
  have Hmin := Lib.hid hmin
  have HL := Lib.hid hL
  have Hpq := Lib.hid hpq
  clear hlt hmin hL hik
  generalize min a b = mn at *
  generalize max a b = mx at *
  go_wp2_with fail
  go_quiet (fail)
  have hi4 := hi4.drewQ nq
  have hb4 := below_drewN hb4 nq
  have c0 : (World.drewN w4 nq).cell? ⟨g, p, none⟩ = some (.int .i64 (a : Int)) := c0
  have c1 : (World.drewN w4 nq).cell? ⟨g, q, none⟩ = some (.int .i64 (b : Int)) := c1
  clear Hcell
  generalize World.drewN w4 nq = v4 at *
  clear hm2 hx2 hmn hmx q5 q6 q6'
  go_wp2_with fail
  go_quiet (fail)
  have hi5 := hi4.drewQ nq
  have hb5 := below_drewN hb4 nq
  generalize World.drewN v4 nq = w5 at *
  clear hi4 hb4 c0 c1
  obtain ⟨X, hX⟩ : ∃ X, X = s.extract a s.size := ⟨_, rfl⟩
  obtain ⟨Y, hY⟩ : ∃ Y, Y = s.extract b s.size := ⟨_, rfl⟩
  rw [← hX, ← hY]
  have hXl : X.data.toList = s.data.toList.drop a := by rw [hX, ext_suf]
  have hYl : Y.data.toList = s.data.toList.drop b := by rw [hY, ext_suf]
  have hLL := HL.out
  rw [← hXl, ← hYl] at hLL
  have hless : Op.bytesLess X.toList Y.toList = true := less_is (by rw [hXl, hYl]; exact Hlt.out)
  have hXs : X.size ≤ s.size := by
    have := congrArg List.length hXl
    rw [List.length_drop] at this
    have e : X.data.toList.length = X.size := rfl
    have e2 : s.data.toList.length = s.size := rfl
    omega
  have hYs : Y.size ≤ s.size := by
    have := congrArg List.length hYl
    rw [List.length_drop] at this
    have e : Y.data.toList.length = Y.size := rfl
    have e2 : s.data.toList.length = s.size := rfl
    omega
  have hm3 : ∀ (ats : Array TypeId) (t : TypeId) (w : World), (Builtin.min_ ats t #[.int .i64 (X.size : Int), .int .i64 (Y.size : Int)]).run Try.prog w = .ok (.int .i64 ((min X.size Y.size : Nat) : Int)) w := fun ats t w => by
    rw [run_min_int2]; congr 2; omega
  have HLL := Lib.hid hLL
  have Hless := Lib.hid hless
  clear hX hY hXl hYl hLL hless
  go_wp2
  go_loopw [13] (fun nv wr => ∃ m : Nat, nv = .int .i64 m ∧ m ≤ X.size ∧ Hid (m ≤ L) ∧ IntsAt wr g' (lcpsI s.data.toList) ∧ Below w.heap.size w wr) (fun nv _ => X.size - (intOf nv).toNat)
  case atStart => exact ⟨0, rfl, Nat.zero_le _, Lib.hid (Nat.zero_le _), hi5, hb5⟩
  case round =>
    clear hi5 hb5
    obtain ⟨m, rfl, hm, HmL, hi5, hb5⟩ := hrel
    have hmore := lcp_moreG (a := X.data.toList) (b := Y.data.toList) (n := m) (by rw [← HLL.out]; exact HmL.out)
    rw [← HLL.out] at hmore
    by_cases hstep : m < X.size ∧ m < Y.size ∧ X.data.toList.getD m 0 = Y.data.toList.getD m 0
    · obtain ⟨h1, h2, h3⟩ := hstep
      have hL2 := hmore.2 ⟨h1, h2, h3⟩
      rw [getD_bytes X m h1, getD_bytes Y m h2] at h3
      have q2 : decide ((m : Int) < ((min X.size Y.size : Nat) : Int)) = true := decide_eq_true (by omega)
      have q2' : decide (m < min X.size Y.size) = true := decide_eq_true (by omega)
      have q4 : ((X[m].toNat : Int) == (Y[m].toNat : Int)) = true := by rw [h3]; simp
      have i1 : (m : Int) < (X.size : Int) := by omega
      have i2 : (m : Int) < (Y.size : Int) := by omega
      have HL2 := Lib.hid hL2
      clear hL2 h3 hmore
      generalize min X.size Y.size = M at *
      go_wp2
      go_quiet (fail)
      go_wp2
      go_roundw
      case rel => exact ⟨m + 1, by go_num, by omega, Lib.hid HL2.out, hi5.drewQ _, below_drewN hb5 _⟩
      case measure => simp only [intOf]; omega
    · have hLm : L = m := by
        have h1 := HmL.out
        rcases Nat.lt_or_ge m L with h2 | h2
        · exact absurd (hmore.1 h2) hstep
        · omega
      have HLm := Lib.hid hLm
      clear hLm hmore HmL
      have w1 : IntKind.i64.wrap ((p : Int) + 1) = ((p + 1 : Nat) : Int) := by rw [IntKind.wrap_i64]; omega
      have w2 : IntKind.i64.wrap ((q : Int) + 1) = ((q + 1 : Nat) : Int) := by rw [IntKind.wrap_i64]; omega
      rcases (show m < X.size ∧ m < Y.size ∧ X.data.toList.getD m 0 ≠ Y.data.toList.getD m 0 ∨ ¬ m < min X.size Y.size from by
        by_cases h1 : m < X.size
        · by_cases h2 : m < Y.size
          · exact .inl ⟨h1, h2, fun h3 => hstep ⟨h1, h2, h3⟩⟩
          · exact .inr (by omega)
        · exact .inr (by omega)) with ⟨h1, h2, h3⟩ | h1
      case' inl =>
        rw [getD_bytes X m h1, getD_bytes Y m h2] at h3
        have q2 : decide ((m : Int) < ((min X.size Y.size : Nat) : Int)) = true := decide_eq_true (by omega)
        have q2' : decide (m < min X.size Y.size) = true := decide_eq_true (by omega)
        have q4 : ((X[m].toNat : Int) == (Y[m].toNat : Int)) = false := by rw [beq_eq_false_iff_ne]; intro h; exact h3 (UInt8.toNat_inj.1 (by omega))
        have i1 : (m : Int) < (X.size : Int) := by omega
        have i2 : (m : Int) < (Y.size : Int) := by omega
        clear h3 hstep
        generalize min X.size Y.size = M at *
        go_wp2_with fail
        go_quiet (fail)
      case' inr =>
        have q2 : decide ((m : Int) < ((min X.size Y.size : Nat) : Int)) = false := decide_eq_false (by omega)
        have q2' : decide (m < min X.size Y.size) = false := decide_eq_false (by omega)
        clear hstep
        generalize min X.size Y.size = M at *
        go_wp2_with fail
        go_quiet (fail)
      all_goals
        have hi6 := hi5.drewQ nq
        have hb6 := below_drewN hb5 nq
        generalize World.drewN _ nq = w6 at *
        have hless := Hless.out
        have hr := hi6.part (p + 1) (q - p) (by rw [lcpsI_len]; show p + 1 + (q - p) ≤ s.size; omega)
        have HM := Lib.hid (minInt_any (some ⟨g', p + 1, none⟩) (q - p) (s.size - (p + 1)) w6.heap.size _ w6 (by have := Hpq.out; omega) (by omega) (by rw [List.length_take, List.length_drop, lcpsI_len]; have e2 : s.data.toList.length = s.size := rfl; omega) hr)
        go_wp2_with fail
        refine HM.out.mono ?_
        rintro e w7 ⟨⟨x, rfl, hx⟩, rfl⟩
        obtain rfl := isMin_eq hx Hmin.out
        have q7 : ((m : Int) == (L : Int)) = true := by rw [beq_iff_eq]; have := HLm.out; omega
        clear hx w1 w2
        go_wp2
        all_goals (go_ret; exact ⟨by simp, hb6⟩)
end Go.Proofs.Ytpaodbkdmiedfaa
