/- TurnCount's walk: backward search counts where a text stands around the ring. -/
import Derived.Test.YtmkcmjhdbjhmmaaCount
import Derived.Test.YtmkcmjhdbjhmmaaTurnOf
import Derived.Test.YtmkcmjhdbjhmmaaPrefix
import Derived.OpenShut
namespace Go.Proofs.Ytmkcmjhdbjhmmaa
open Go.RowKit
set_option linter.unusedVariables false

theorem count_no (t p : ByteArray) (ht : t.size ≤ 200) (hp : 200 < p.size) (w : World) : Calls Try.prog 4 #[.string t, .string p] w fun e w' => e = .returned (.tuple #[.int .i64 0, .int .i64 2]) ∧ w = w' := by
  go_enter Try.func4, Try.ntmps4
  go_wp2_with fail
  refine (wordCheck_ok t ht _).mono ?_
  rintro e w1 ⟨rfl, rfl⟩
  go_wp2_with fail
  refine (wordCheck_no p hp _).mono ?_
  rintro e w1 ⟨rfl, rfl⟩
  go_wp2
  go_ret2
  exact ⟨rfl, rfl⟩
def strV : Value → ByteArray | .string b => b | _ => ⟨#[]⟩
theorem putT_size (s : ByteArray) : (putT s).size ≤ 200 := by
  unfold putT
  split
  · have := tOf_len s.data.toList
    show (tOf s.data.toList).toArray.size ≤ 200
    rw [List.size_toArray, this]; assumption
  · exact Nat.zero_le _

set_option maxRecDepth 100000 in
set_option maxHeartbeats 4000000 in
theorem turnCount_walk (s p : ByteArray) (hs0 : s.size ≤ 140737488351232) (hp0 : p.size ≤ 140737488351232) {w : World} :
    Calls Try.prog 3 #[.string s, .string p] w fun e w' => e = .returned (.bool true) ∧ Below w.heap.size w w' := by
  have H0 := Lib.hid (count_ok ⟨#[110, 110, 98, 97, 97, 97]⟩ ⟨#[97, 110, 97]⟩ (by decide) (by decide))
  have e0 : cntF (⟨#[110, 110, 98, 97, 97, 97]⟩ : ByteArray).data.toList (⟨#[97, 110, 97]⟩ : ByteArray).data.toList = 2 := cnt_known
  rw [e0] at H0
  clear e0
  have HP := Lib.hid (turnPut_any s)
  by_cases hp : p.size ≤ 200
  case neg =>
    have HN := Lib.hid (count_no (putT s) p (putT_size s) (by omega))
    have q1 : decide ((200 : Int) < (p.size : Int)) = true := decide_eq_true (by omega)
    have q1' : decide (200 < p.size) = true := decide_eq_true (by omega)
    generalize putT s = t at *
    generalize putE s = E at *
    generalize putA s = A at *
    go_enter Try.func3, Try.ntmps3
    go_wp2_with fail
    refine (H0.out _).mono ?_
    rintro e w1 ⟨rfl, hb1⟩
    go_wp2_with fail
    refine (HP.out _).mono ?_
    rintro e w2 ⟨rfl, hb2⟩
    have hb2 := chain hb2 hb1
    go_wp2_with fail
    refine (HN.out _).mono ?_
    rintro e w3 ⟨rfl, rfl⟩
    go_wp2
    all_goals (go_ret; exact ⟨by simp, hb2⟩)
  have HC := Lib.hid (count_ok (putT s) p (putT_size s) hp)
  by_cases hs : s.size ≤ 200
  case neg =>
    have hE : putE s = 2 := if_neg hs
    generalize cntF (putT s).data.toList p.data.toList = N at *
    rw [hE] at HP
    clear hE
    generalize putT s = t at *
    generalize putA s = A at *
    go_enter Try.func3, Try.ntmps3
    go_wp2_with fail
    refine (H0.out _).mono ?_
    rintro e w1 ⟨rfl, hb1⟩
    go_wp2_with fail
    refine (HP.out _).mono ?_
    rintro e w2 ⟨rfl, hb2⟩
    have hb2 := chain hb2 hb1
    go_wp2_with fail
    refine (HC.out _).mono ?_
    rintro e w3 ⟨rfl, hb3⟩
    have hb3 := chain hb3 hb2
    go_wp2
    all_goals (go_ret; exact ⟨by simp, hb3⟩)
  have hE : putE s = 0 := if_pos hs
  have hN : cntF (putT s).data.toList p.data.toList = hitsQ s.data.toList p.data.toList := by
    have : (putT s).data.toList = lastB s.data.toList (ordOf s.data.toList) := by unfold putT; rw [if_pos hs]; rfl
    rw [this, cntF_eq (ordOf_is _)]
  rw [hN] at HC
  rw [hE] at HP
  clear hE hN
  generalize putT s = t at *
  generalize putA s = A at *
  obtain ⟨N, hN⟩ : ∃ N, N = hitsQ s.data.toList p.data.toList := ⟨_, rfl⟩
  have hNt : N = hitsTo s.data.toList p.data.toList s.size := hN
  rw [← hN] at HC
  have HNt := Lib.hid hNt
  clear hN hNt
  have q1 : decide ((200 : Int) < (p.size : Int)) = false := decide_eq_false (by omega)
  have q1' : decide (200 < p.size) = false := decide_eq_false (by omega)
  go_enter Try.func3, Try.ntmps3
  go_wp2_with fail
  refine (H0.out _).mono ?_
  rintro e w1 ⟨rfl, hb1⟩
  go_wp2_with fail
  refine (HP.out _).mono ?_
  rintro e w2 ⟨rfl, hb2⟩
  have hb2 := chain hb2 hb1
  go_wp2_with fail
  refine (HC.out _).mono ?_
  rintro e w3 ⟨rfl, hb3⟩
  have hb3 := chain hb3 hb2
  clear hb1 hb2 H0 HP HC q1 q1'
  go_wp2
  have hLs : s.data.toList.length = s.size := rfl
  have HLs := Lib.hid hLs
  clear hLs
  go_loopw [12] (fun xv wr => ∃ x : ByteArray, xv = .string x ∧ x.size ≤ 600 ∧ Hid ((∀ j, j < x.data.toList.length → x.data.toList.getD j 0 = s.data.toList.getD (j % s.data.toList.length) 0) ∧ x.data.toList.length % s.data.toList.length = 0) ∧ wr = w3) (fun xv _ => 1000 - (strV xv).size)
  case atStart => exact ⟨s, rfl, by omega, Lib.hid ⟨fun j hj => by rw [Nat.mod_eq_of_lt hj], Nat.mod_self _⟩, rfl⟩
  case round =>
    obtain ⟨x, rfl, hx, Hx, rfl⟩ := hrel
    have hwr : Below w.heap.size w wr := by assumption
    clear hb3
    by_cases hmore : s.size ≠ 0 ∧ x.size < s.size + p.size
    · obtain ⟨h1, h2⟩ := hmore
      have qs : s.toList.isEmpty = false := by rw [ByteArray.toList_eq, List.isEmpty_eq_false_iff]; intro e; exact h1 (congrArg List.length e)
      have hnew := wide_more (s := s.data.toList) (x := x.data.toList) (show 0 < s.size by omega) Hx.out.2 Hx.out.1
      rw [← show (x ++ s).data.toList = x.data.toList ++ s.data.toList by simp [ByteArray.data_append]] at hnew
      have Hnew := Lib.hid hnew
      have hsz : (x ++ s).size = x.size + s.size := ByteArray.size_append
      have hadd : ∀ w, (Op.stringOp .add x s).run Try.prog w = .ok (.string (x ++ s)) w := fun w => run_string_add_sum w _ _ (by omega)
      have e1 : IntKind.i64.wrap ((s.size : Int) + (p.size : Int)) = (s.size : Int) + (p.size : Int) := by rw [IntKind.wrap_i64]; omega
      have q1 : decide ((x.size : Int) < (s.size : Int) + (p.size : Int)) = true := decide_eq_true (by omega)
      clear hnew
      go_wp2
      go_roundw
      case rel => exact ⟨x ++ s, rfl, by omega, Lib.hid Hnew.out, trivial⟩
      case measure => simp only [strV]; simp; omega
    · have hle : s.size ≠ 0 → s.size + p.size ≤ x.size := fun h => by
        rcases Nat.lt_or_ge x.size (s.size + p.size) with h2 | h2
        · exact absurd ⟨h, h2⟩ hmore
        · exact h2
      have Hle := Lib.hid hle
      clear hle
      have key : ∀ (z : Bool), s.toList.isEmpty = z → True := fun _ _ => trivial
      by_cases hs0 : s.size = 0
      case pos =>
        have qs : s.toList.isEmpty = true := by rw [ByteArray.toList_eq, List.isEmpty_iff]; exact List.eq_nil_of_length_eq_zero hs0
        have hN0 : N = 0 := by
          have h1 := HNt.out
          have h2 := hitsTo_le s.data.toList p.data.toList s.size
          omega
        subst hN0
        clear hmore key
        go_wp2
        go_loopw [13, 14, 62] (fun hv _ iv wq => iv = .int .i64 0 ∧ hv = .int .i64 0 ∧ wq = wr) (fun _ _ iv _ => 0)
        case atStart => exact ⟨rfl, rfl, rfl⟩
        case round =>
          obtain ⟨rfl, rfl, rfl⟩ := hrel
          have hlt : ¬ (0 : Int) < (s.size : Int) := by omega
          clear qs
          go_wp2
          go_ret
          exact ⟨by simp, hwr⟩
      case neg =>
        have qs : s.toList.isEmpty = false := by rw [ByteArray.toList_eq, List.isEmpty_eq_false_iff]; intro e; exact hs0 (congrArg List.length e)
        have q1 : decide ((x.size : Int) < (s.size : Int) + (p.size : Int)) = false := decide_eq_false (by have := Hle.out hs0; omega)
        have e1 : IntKind.i64.wrap ((s.size : Int) + (p.size : Int)) = (s.size : Int) + (p.size : Int) := by rw [IntKind.wrap_i64]; omega
        clear hmore key
        go_wp2
        go_loopw [13, 14, 62] (fun hv _ iv wq => ∃ k : Nat, k ≤ s.size ∧ iv = .int .i64 k ∧ hv = .int .i64 (hitsTo s.data.toList p.data.toList k : Nat) ∧ wq = wr) (fun _ _ iv _ => s.size - (intOf iv).toNat)
        case atStart => exact ⟨0, Nat.zero_le _, rfl, rfl, rfl⟩
        case round =>
          obtain ⟨k, hk, rfl, rfl, rfl⟩ := hrel
          by_cases hlt : k < s.size
          · have hroom := Hle.out (by omega)
            have hq := pre_hit (s := s.data.toList) (x := x.data.toList) (p := p.data.toList) Hx.out.1 (i := k) (show k + p.size ≤ x.size by omega)
            have hxs : (x.extract k x.size).data.toList = x.data.toList.drop k := by rw [ByteArray.data_extract, Array.toList_extract, List.extract_eq_take_drop]; exact List.take_of_length_le (by rw [List.length_drop]; exact Nat.le_refl _)
            have hHP : Hid (∀ w, Calls Try.prog 6 #[.string (x.extract k x.size), .string p] w fun e w' => e = .returned (.bool (preB (x.extract k x.size) p)) ∧ w = w') := Lib.hid fun w => hasPrefix_any _ p (by rw [ByteArray.size_extract]; omega) (by omega) w
            have hpb : preB (x.extract k x.size) p = true ↔ pw s.data.toList k p.data.toList.length = p.data.toList := by rw [preB_iff, hxs]; exact hq
            have hsucc := hitsTo_succ s.data.toList p.data.toList k
            have hle := hitsTo_le s.data.toList p.data.toList k
            have i1 : (k : Int) ≤ (x.size : Int) := by omega
            have i1' : k ≤ x.size := by omega
            by_cases hh : pw s.data.toList k p.data.toList.length = p.data.toList
            case pos =>
              rw [if_pos hh] at hsucc
              rw [hpb.2 hh] at hHP
              have Hsucc := Lib.hid hsucc
              clear hh hpb hq hxs hsucc hroom qs
              generalize hitsTo s.data.toList p.data.toList k = n at *
              go_wp2_with fail
              refine (hHP.out _).mono ?_
              rintro e w4 ⟨rfl, rfl⟩
              go_wp2
              go_roundw
              case rel => exact ⟨k + 1, by omega, by go_num, by rw [Hsucc.out]; go_num, trivial⟩
              case measure => simp [intOf] <;> omega
            case neg =>
              have hno : preB (x.extract k x.size) p = false := by
                rw [Bool.eq_false_iff]; exact mt hpb.1 hh
              rw [if_neg hh] at hsucc
              rw [hno] at hHP
              have Hsucc := Lib.hid hsucc
              clear hh hpb hq hxs hsucc hroom hno qs
              generalize hitsTo s.data.toList p.data.toList k = n at *
              go_wp2_with fail
              refine (hHP.out _).mono ?_
              rintro e w4 ⟨rfl, rfl⟩
              go_wp2
              go_roundw
              case rel => exact ⟨k + 1, by omega, by go_num, by rw [Hsucc.out]; go_num, trivial⟩
              case measure => simp [intOf] <;> omega
          · obtain rfl : k = s.size := by omega
            have hNt := HNt.out
            rw [← hNt]
            clear hNt qs
            go_wp2
            go_ret
            exact ⟨by simp, hwr⟩
end Go.Proofs.Ytmkcmjhdbjhmmaa
