/- RunsZero's walk: index 0 occurs as often as bytes are repeated within runs. -/
import Derived.Test.YtccbfhaoepomnaaFrontLaws
import Derived.Test.YtccbfhaoepomnaaRunsWalk
namespace Go.Proofs.Ytccbfhaoepomnaa
open Go.RowKit
set_option linter.unusedVariables false

/-- How many of the first k bytes are as the one ahead of them. -/
def zc (s : List UInt8) : Nat → Nat
  | 0 => 0
  | k + 1 => zc s k + if 0 < k ∧ s.getD k 0 = s.getD (k - 1) 0 then 1 else 0
theorem zc_le (s : List UInt8) : ∀ k, zc s k ≤ k
  | 0 => Nat.le_refl _
  | k + 1 => by have := zc_le s k; rw [zc]; split <;> omega
def sumN : List (UInt8 × Int) → Int
  | [] => 0
  | x :: l => (x.2 - 1) + sumN l
theorem sumN_append (l m : List (UInt8 × Int)) : sumN (l ++ m) = sumN l + sumN m := by
  induction l with
  | nil => simp [sumN]
  | cons x l ih => rw [List.cons_append, sumN, sumN, ih]; omega
theorem runs_zc (s : List UInt8) : ∀ k, k ≤ s.length → (runsOf (s.take k)).length + zc s k = k ∧ sumN (runsOf (s.take k)) = zc s k ∧ (0 < k → ∃ l n, runsOf (s.take k) = l ++ [(s.getD (k - 1) 0, n)])
  | 0, _ => ⟨rfl, rfl, fun h => absurd h (by omega)⟩
  | k + 1, hk => by
    obtain ⟨h1, h2, h3⟩ := runs_zc s k (by omega)
    have e : runsOf (s.take (k + 1)) = addRun (runsOf (s.take k)) (s.getD k 0) := by rw [take_succ_getD s k 0 (by omega), runsOf_snoc]
    rw [e, zc]
    rcases Nat.eq_zero_or_pos k with hk0 | hk0
    · subst hk0
      rw [if_neg (by omega)]
      refine ⟨rfl, rfl, fun _ => ⟨[], 1, rfl⟩⟩
    · obtain ⟨l, n, hl⟩ := h3 hk0
      rw [hl] at h1 h2 ⊢
      by_cases hc : s.getD k 0 = s.getD (k - 1) 0
      · rw [if_pos ⟨hk0, hc⟩, hc, addRun_same]
        rw [List.length_append, List.length_singleton] at h1 ⊢
        rw [sumN_append] at h2 ⊢
        refine ⟨by omega, ?_, fun _ => ⟨l, n + 1, by rw [Nat.add_sub_cancel, hc]⟩⟩
        simp only [sumN] at h2 ⊢
        omega
      · rw [if_neg (fun h => hc h.2)]
        have hm := addRun_miss (l := l ++ [(s.getD (k - 1) 0, n)]) (c := s.getD k 0) (m := l.length) (by simp) (by
          rw [getD_app_right _ _ _ _ (Nat.le_refl _), Nat.sub_self]
          exact fun h => hc h.symm)
        rw [hm]
        refine ⟨by rw [List.length_append, List.length_singleton]; omega, ?_, fun _ => ⟨l ++ [(s.getD (k - 1) 0, n)], 1, by rw [Nat.add_sub_cancel]⟩⟩
        rw [sumN_append, h2]
        simp [sumN]
theorem sumN_take (l : List (UInt8 × Int)) (k : Nat) (hk : k < l.length) : sumN (l.take (k + 1)) = sumN (l.take k) + ((l.getD k (0, 0)).2 - 1) := by
  rw [take_succ_getD l k (0, 0) hk, sumN_append]
  simp [sumN]

set_option maxHeartbeats 2000000 in
theorem runsZero_walk (s : ByteArray) (hs0 : s.size ≤ 140737488351232) (w : World) :
    Calls Try.prog 7 #[.string s] w fun e w' => e = .returned (.bool true) ∧ Below w.heap.size w w' := by
  by_cases hs : s.size ≤ 200
  · have H1 := Lib.hid (frontPut_ok s hs)
    have H2 := Lib.hid (runs_ok s hs)
    by_cases h0 : s.size = 0
    · have q0 : s.toList = [] := by
        rw [ByteArray.toList_eq]
        exact List.eq_nil_of_length_eq_zero h0
      have q0' : (!s.toList.isEmpty) = false := by rw [q0]; rfl
      have q0'' : (s.toList == []) = true := by rw [q0]; rfl
      go_enter Try.func7, Try.ntmps7
      go_wp2_with fail
      refine (fronts_any _).mono ?_
      rintro e w1 ⟨rfl, hb1⟩
      go_wp2_with fail
      refine (H1.out _).mono ?_
      rintro e w2 ⟨A, c, rfl, hr2, hb2, hc2⟩
      go_wp2_with fail
      refine (H2.out _).mono ?_
      rintro e w3 ⟨A', c', rfl, hr3, hb3⟩
      have hbw := chain hb3 (chain hb2 hb1)
      go_wp2
      go_ret
      exact ⟨rfl, hbw⟩
    · have q0 : s.toList.isEmpty = false := by
        rw [ByteArray.toList_eq, List.isEmpty_eq_false_iff]
        intro h
        have : s.data.toList.length = 0 := by rw [h]; rfl
        exact h0 this
      have q0' : (s.toList == []) = false := by
        rw [beq_eq_false_iff_ne]; intro h; rw [h] at q0; cases q0
      have hz := enc_zero s.data.toList
      have hEl := encF_length shelf0 s.data.toList
      generalize encF shelf0 s.data.toList = E at *
      obtain ⟨z1, z2, _⟩ := runs_zc s.data.toList s.data.toList.length (Nat.le_refl _)
      rw [List.take_length] at z1 z2
      have hcnt := count_le (runsOf s.data.toList)
      rw [runs_expand] at hcnt
      have hval := runs_valid s.data.toList
      have hlr := runs_length s.data.toList
      have hsl : s.data.toList.length = s.size := rfl
      rw [hsl] at z1 z2 hcnt hlr
      generalize runsOf s.data.toList = R at *
      have hzs := zc_le s.data.toList s.size
      have Hz := Lib.hid hz
      have HEl := Lib.hid hEl
      have Hcnt := Lib.hid hcnt
      have Hval := Lib.hid hval
      have Hz1 := Lib.hid z1
      have Hz2 := Lib.hid z2
      have H0 := Lib.hid h0
      clear hz hEl z1 z2 hcnt hval h0 hsl
      go_enter Try.func7, Try.ntmps7
      go_wp2_with fail
      refine (fronts_any _).mono ?_
      rintro e w1 ⟨rfl, hb1⟩
      go_wp2_with fail
      refine (H1.out _).mono ?_
      rintro e w2 ⟨A, c, rfl, hr2, hb2, hc2⟩
      go_wp2_with fail
      refine (H2.out _).mono ?_
      rintro e w3 ⟨A', c', rfl, hr3, hb3⟩
      have hbw := chain hb3 (chain hb2 hb1)
      have hr2' := hr2.after hb3
      clear hb1 hb2 hb3 hr2
      go_wp2
      go_loop [7, 9, 10, 36] (fun zv _ _ i => ∃ k : Nat, k ≤ s.size ∧ i = .int .i64 k ∧ zv = .int .i64 (zc s.data.toList k : Nat)) (fun _ _ _ i => s.size - (intOf i).toNat)
      case atStart => exact ⟨0, Nat.zero_le _, rfl, rfl⟩
      case round =>
        obtain ⟨k, hk, rfl, rfl⟩ := hrel
        by_cases hlt : k < s.size
        · obtain ⟨b, o, rfl, hbB, hc⟩ := hr2'.2 (by omega)
          have c0 := hc (k * 1 + 0) (by rw [flat_length cInt 1 cInt_len, HEl.out]; show k * 1 + 0 < s.size * 1; omega)
          rw [flat_getD cInt 1 cInt_len 0 E k _ (by rw [HEl.out]; exact hlt) (by omega)] at c0
          simp only [cInt, List.getD_cons_zero, Nat.mul_one, Nat.add_zero] at c0
          have hzk := zc_le s.data.toList k
          have hzs' : zc s.data.toList (k + 1) = zc s.data.toList k + if 0 < k ∧ s.data.toList.getD k 0 = s.data.toList.getD (k - 1) 0 then 1 else 0 := rfl
          have hzz := fun h => Hz.out k h hlt
          generalize hZ : zc s.data.toList (k + 1) = Z' at *
          have HZ := Lib.hid hZ
          have Hzs := Lib.hid hzs'
          have Hzz := Lib.hid hzz
          clear hZ hzs' hzz hc
          generalize zc s.data.toList k = Z at *
          generalize E.getD k 0 = x at *
          by_cases hk0 : 0 < k
          · have q1 : decide ((0 : Int) < (k : Int)) = true := decide_eq_true (by omega)
            by_cases hx : x = 0
            · have q2 : (x == 0) = true := by simpa using hx
              have heq := (Hzz.out hk0).1 hx
              have Heq := Lib.hid heq
              have Hx := Lib.hid hx
              clear heq hx
              go_wp2
              go_round
              case rel => exact ⟨k + 1, by omega, by go_num, by rw [HZ.out, Hzs.out, if_pos ⟨hk0, Heq.out⟩]; go_num⟩
              case measure => simp [intOf]; omega
            · have q2 : (x == 0) = false := by simpa using hx
              have heq := mt (Hzz.out hk0).2 hx
              have Heq := Lib.hid heq
              have Hx := Lib.hid hx
              clear heq hx
              go_wp2
              go_round
              case rel => exact ⟨k + 1, by omega, by go_num, by rw [HZ.out, Hzs.out, if_neg (fun h => Heq.out h.2)]; rfl⟩
              case measure => simp [intOf]; omega
          · have q1 : decide ((0 : Int) < (k : Int)) = false := decide_eq_false (by omega)
            obtain rfl : k = 0 := by omega
            simp only [Nat.add_zero] at c0
            go_wp2
            go_round
            case rel => exact ⟨0 + 1, by omega, by go_num, by rw [HZ.out, Hzs.out, if_neg (fun h => absurd h.1 (by omega))]; rfl⟩
            case measure => simp [intOf]; omega
        · obtain rfl : k = s.size := by omega
          have hz2 := Hz2.out
          generalize hZ : zc s.data.toList s.size = Z at *
          have HZ := Lib.hid hZ
          have HZ2 := Lib.hid hz2
          clear hZ hz2
          go_wp2
          go_loopw [8, 12, 52] (fun mv _ j wr => ∃ q : Nat, q ≤ R.length ∧ j = .int .i64 q ∧ mv = .int .i64 (sumN (R.take q)) ∧ 0 ≤ sumN (R.take q) ∧ sumN (R.take q) ≤ 200 * q ∧ Below w3.heap.size w3 wr) (fun _ _ j _ => R.length - (intOf j).toNat)
          case atStart => exact ⟨0, Nat.zero_le _, rfl, rfl, Int.le_refl _, Int.le_refl _, Below.refl _ _⟩
          case round =>
            obtain ⟨q, hq, rfl, rfl, hs1, hs2, hbr⟩ := hrel
            by_cases hql : q < R.length
            · have hr := hr3.below hbr
              obtain ⟨b, o, rfl, hbB, hc⟩ := hr.2 (by omega)
              have c0 := hc (q * 2 + 0) (by rw [flat_length cRun 2 cRun_len]; omega)
              have c1 := hc (q * 2 + 1) (by rw [flat_length cRun 2 cRun_len]; omega)
              rw [flat_getD cRun 2 cRun_len (0, 0) R q _ (by omega) (by omega)] at c0 c1
              simp only [cRun, List.getD_cons_zero, List.getD_cons_succ, Nat.add_zero, ← Nat.add_assoc] at c0 c1
              have hn1 := (Hval.out q hql).1
              have hn2 := Hcnt.out q hql
              have hst := sumN_take R q hql
              have Hst := Lib.hid hst
              clear hst hc
              generalize R.getD q (0, 0) = x at *
              obtain ⟨ch, N⟩ := x
              simp only at c0 c1 hn1 hn2
              generalize hS : sumN (R.take q) = S at *
              have HS := Lib.hid hS
              clear hS
              go_wp2
              go_roundw
              case rel => exact ⟨q + 1, by omega, by go_num, by rw [Hst.out], by rw [Hst.out]; omega, by rw [Hst.out]; omega, hbr.alloc hbr.size _⟩
              case measure => simp [intOf]; omega
            · obtain rfl : q = R.length := by omega
              have hSz : sumN (R.take R.length) = Z := by rw [List.take_length]; exact HZ2.out
              have hRl : (R.length : Int) = (s.size : Int) - Z := by have := Hz1.out; omega
              rw [hSz]
              have q2 : ((Z : Int) == (Z : Int)) = true := by simp
              have q3 : ((R.length : Int) == (s.size : Int) - (Z : Int)) = true := by rw [hRl]; simp
              have HSz := Lib.hid hSz
              have hZl : (Z : Int) ≤ s.size := by omega
              clear hSz hRl hs1 hs2
              go_wp2
              go_ret
              exact ⟨rfl, chain hbr hbw⟩
  · go_enter Try.func7, Try.ntmps7
    go_wp2_with fail
    refine (fronts_any _).mono ?_
    rintro e w1 ⟨rfl, hb1⟩
    go_wp2_with fail
    refine (frontPut_no s (by omega) _).mono ?_
    rintro e w2 ⟨rfl, rfl⟩
    go_wp2_with fail
    refine (runs_no s (by omega) _).mono ?_
    rintro e w2 ⟨rfl, rfl⟩
    go_wp2
    go_ret
    exact ⟨rfl, hb1⟩

end Go.Proofs.Ytccbfhaoepomnaa
