/- SuffixTwice's walk: the result stands twice, and nothing longer does. -/
import Derived.Test.YtkclcjgkicikfaaTwice
import Derived.Test.YtkclcjgkicikfaaKeep
import Derived.Test.YtkclcjgkicikfaaIndexAny
import Derived.Test.YtkclcjgkicikfaaLaidLastIndex
import Derived.BigQuiet
import Derived.OpenShut
namespace Go.Proofs.Ytkclcjgkicikfaa
open Go.RowKit
set_option linter.unusedVariables false

theorem lastIndex_any (s t : ByteArray) (hs : s.size ≤ 4294967280) (w : World) :
    Calls Try.prog 6 #[.string s, .string t] w fun e w' => e = .returned (.int .i64 (Lib.lastIndex s.data.toList t.data.toList)) ∧ w = w' := by
  refine (Any.strings_LastIndex laysLx s t (by omega) w).mono ?_
  rintro e w' ⟨rfl, rfl⟩
  exact ⟨rfl, rfl⟩

set_option maxRecDepth 100000 in
set_option maxHeartbeats 2000000 in
theorem suffixTwice_walk (s : ByteArray) (i k n : Int) (hs0 : s.size ≤ 140737488351232) (hi : (Lit.int .i64 i).wf = true) (hk : (Lit.int .i64 k).wf = true) (hn : (Lit.int .i64 n).wf = true) {w : World} (hm : MaxL w) :
    Calls Try.prog 3 #[.string s, .int .i64 i, .int .i64 k, .int .i64 n] w fun e w' => e = .returned (.bool true) ∧ Below w.heap.size w w' := by
  have H0 := Lib.hid (twice_ok ⟨#[98, 97, 110, 97, 110, 97]⟩ (by decide))
  by_cases hsz : s.size ≤ 200
  case neg =>
    have H1 := Lib.hid (twice_no s (by omega))
    go_enter Try.func3, Try.ntmps3
    go_wp2_with fail
    refine (H0.out _).mono ?_
    rintro e w1 ⟨t0, rfl, ht0, _, hb1⟩
    obtain rfl : t0 = ⟨#[97, 110, 97]⟩ := by
      have := twice_known ht0
      cases t0 with | mk d => cases d with | mk l => simpa using this
    go_wp2_with fail
    refine (H1.out _).mono ?_
    rintro e w2 ⟨rfl, hb2⟩
    have hb2 := chain hb2 hb1
    go_wp2
    all_goals (go_ret; exact ⟨by simp, hb2⟩)
  have H1 := Lib.hid (twice_ok s hsz)
  by_cases h0 : s.size = 0
  case pos =>
    obtain rfl : s = ⟨#[]⟩ := by cases s with | mk d => cases d with | mk l => (cases l with | nil => rfl | cons x l => simp [ByteArray.size] at h0)
    go_enter Try.func3, Try.ntmps3
    go_wp2_with fail
    refine (H0.out _).mono ?_
    rintro e w1 ⟨t0, rfl, ht0, _, hb1⟩
    obtain rfl : t0 = ⟨#[97, 110, 97]⟩ := by
      have := twice_known ht0
      cases t0 with | mk d => cases d with | mk l => simpa using this
    go_wp2_with fail
    refine (H1.out _).mono ?_
    rintro e w2 ⟨t, rfl, ht, hts, hb2⟩
    have hb2 := chain hb2 hb1
    obtain rfl : t = ⟨#[]⟩ := by
      have : t.size = 0 := by have h : t.size ≤ 0 := hts; omega
      cases t with | mk d => cases d with | mk l => (cases l with | nil => rfl | cons x l => simp [ByteArray.size] at this)
    go_wp2
    all_goals (go_ret; exact ⟨by simp, hb2⟩)
  case neg =>
    go_enter Try.func3, Try.ntmps3
    go_wp2_with fail
    refine (H0.out _).mono ?_
    rintro e w1 ⟨t0, rfl, ht0, _, hb1⟩
    obtain rfl : t0 = ⟨#[97, 110, 97]⟩ := by
      have := twice_known ht0
      cases t0 with | mk d => cases d with | mk l => simpa using this
    go_wp2_with fail
    refine (H1.out _).mono ?_
    rintro e w2 ⟨t, rfl, ht, hts, hb2⟩
    have hb2 := chain hb2 hb1
    obtain ⟨a, ha, hidx, hlast⟩ := ht.found
    have ha : a ≤ s.size := ha
    have HI := Lib.hid (index_any s t (by omega))
    have HL := Lib.hid (lastIndex_any s t (by omega))
    rw [hidx] at HI
    have hm2 := hm.after hb2
    have Hlast := Lib.hid hlast
    have Ht := Lib.hid ht
    clear ht hidx hlast ht0
    have qs : s.toList.isEmpty = false := by rw [ByteArray.toList_eq, List.isEmpty_eq_false_iff]; intro e; exact h0 (congrArg List.length e)
    go_wp2_with fail
    refine (HI.out _ hm2).mono ?_
    rintro e w3 ⟨rfl, rfl⟩
    generalize Lib.lastIndex s.data.toList t.data.toList = la at *
    have hw1 := within_any i s.size (by omega) (by omega)
    have hw2 := within_any k s.size (by omega) (by omega)
    have hw3 := within_any n (s.size + 1) (by omega) (by omega)
    have hb_i := And.intro (Int.emod_nonneg i (show (s.size : Int) ≠ 0 by omega)) (Int.emod_lt_of_pos i (show (0 : Int) < s.size by omega))
    have hb_k := And.intro (Int.emod_nonneg k (show (s.size : Int) ≠ 0 by omega)) (Int.emod_lt_of_pos k (show (0 : Int) < s.size by omega))
    have hb_n := And.intro (Int.emod_nonneg n (show (s.size : Int) + 1 ≠ 0 by omega)) (Int.emod_lt_of_pos n (show (0 : Int) < s.size + 1 by omega))
    obtain ⟨x, hx⟩ : ∃ x : Nat, i % (s.size : Int) = x := ⟨(i % (s.size : Int)).toNat, by omega⟩
    obtain ⟨y, hy⟩ : ∃ y : Nat, k % (s.size : Int) = y := ⟨(k % (s.size : Int)).toNat, by omega⟩
    obtain ⟨z, hz⟩ : ∃ z : Nat, n % ((s.size : Int) + 1) = z := ⟨(n % ((s.size : Int) + 1)).toNat, by omega⟩
    rw [hx] at hw1 hb_i
    rw [hy] at hw2 hb_k
    rw [hz] at hw3 hb_n
    have W1 := Lib.hid hw1
    have W2 := Lib.hid hw2
    have W3 := Lib.hid hw3
    clear hw1 hw2 hw3 hx hy hz hi hk hn hs0 hb1 hm hm2
    have hx : x < s.size := by omega
    have hy : y < s.size := by omega
    have hz : z ≤ s.size := by omega
    clear hb_i hb_k hb_n
    have key : x ≠ y → x + z ≤ s.size → y + z ≤ s.size → (s.data.toList.drop x).take z = (s.data.toList.drop y).take z → z ≤ t.size := fun h1 h2 h3 h4 => Ht.out.most x y z hx hy h1 h2 h3 h4
    have Key := Lib.hid key
    clear key H0 H1 HI Ht
    by_cases ht0 : t.size = 0
    case' neg =>
      have qt : t.toList.isEmpty = false := by rw [ByteArray.toList_eq, List.isEmpty_eq_false_iff]; intro e; exact ht0 (congrArg List.length e)
      have hne : la ≠ (a : Int) := Hlast.out (fun e => ht0 (congrArg List.length e))
      have qla : (la == (a : Int)) = false := by rw [beq_eq_false_iff_ne]; exact hne
      clear hne Hlast
      go_wp2_with fail
      refine (HL.out _).mono ?_
      rintro e w3 ⟨rfl, rfl⟩
      go_wp2_with fail
    case' pos =>
      have qt : t.toList.isEmpty = true := by rw [ByteArray.toList_eq, List.isEmpty_iff]; exact List.eq_nil_of_length_eq_zero ht0
      clear Hlast
      go_wp2_with fail
    all_goals
      refine (W1.out _).mono ?_
      rintro e w3 ⟨rfl, rfl⟩
      go_wp2_with fail
      refine (W2.out _).mono ?_
      rintro e w3 ⟨rfl, rfl⟩
      go_wp2_with fail
      refine (W3.out _).mono ?_
      rintro e w3 ⟨rfl, rfl⟩
      obtain ⟨M, hM⟩ : ∃ M, M = max x y := ⟨_, rfl⟩
      have hmax : ∀ (ats : Array TypeId) (t : TypeId) (w : World), (Builtin.max_ ats t #[.int .i64 (x : Int), .int .i64 (y : Int)]).run Try.prog w = .ok (.int .i64 (M : Int)) w := fun ats t w => by
        rw [run_max_int2]; congr 2; omega
      have hMs : M < s.size := by omega
      obtain ⟨v, hv⟩ : ∃ v, v = M + z := ⟨_, rfl⟩
      have eM : IntKind.i64.wrap ((M : Int) + (z : Int)) = (v : Int) := by rw [IntKind.wrap_i64]; omega
      by_cases hxy : x = y
      case pos =>
        subst hxy
        clear hM hv
        go_wp2_with fail
        go_quiet (fail)
        go_wp2
        go_ret
        exact ⟨rfl, ⟨hb2.os, hb2.tape, hb2.output, hb2.size, hb2.block⟩⟩
      have qxy : ((x : Int) == (y : Int)) = false := by rw [beq_eq_false_iff_ne]; omega
      by_cases hroom : v ≤ s.size
      case neg =>
        have qr : decide ((s.size : Int) < (v : Int)) = true := decide_eq_true (by omega)
        have qr' : decide (s.size < v) = true := decide_eq_true (by omega)
        clear hM hv
        go_wp2_with fail
        go_quiet (fail)
        go_wp2
        go_ret
        exact ⟨rfl, ⟨hb2.os, hb2.tape, hb2.output, hb2.size, hb2.block⟩⟩
      have qr : decide ((s.size : Int) < (v : Int)) = false := decide_eq_false (by omega)
      have qr' : decide (s.size < v) = false := decide_eq_false (by omega)
      obtain ⟨a1, ha1⟩ : ∃ a1, a1 = x + z := ⟨_, rfl⟩
      obtain ⟨a2, ha2⟩ : ∃ a2, a2 = y + z := ⟨_, rfl⟩
      have e1 : IntKind.i64.wrap ((x : Int) + (z : Int)) = (a1 : Int) := by rw [IntKind.wrap_i64]; omega
      have e2 : IntKind.i64.wrap ((y : Int) + (z : Int)) = (a2 : Int) := by rw [IntKind.wrap_i64]; omega
      have i1 : (x : Int) ≤ (a1 : Int) := by omega
      have i1' : x ≤ a1 := by omega
      have i2 : (y : Int) ≤ (a2 : Int) := by omega
      have i2' : y ≤ a2 := by omega
      have i3 : (a1 : Int) ≤ (s.size : Int) := by omega
      have i3' : a1 ≤ s.size := by omega
      have i4 : (a2 : Int) ≤ (s.size : Int) := by omega
      have i4' : a2 ≤ s.size := by omega
      have hkey : s.extract x a1 = s.extract y a2 → z ≤ t.size := fun e => by
        refine Key.out hxy (by omega) (by omega) ?_
        have := congrArg (fun b : ByteArray => b.data.toList) e
        rw [ha1, ha2] at this
        simpa only [ext_take] using this
      have Hkey := Lib.hid hkey
      clear hM hv hkey ha1 ha2 Key
      by_cases hu : s.extract x a1 = s.extract y a2
      case pos =>
        have hzt := Hkey.out hu
        have qu : ((s.extract x a1).toList == (s.extract y a2).toList) = true := by rw [hu]; exact beq_self_eq_true _
        have qu' : (!((s.extract x a1).toList == (s.extract y a2).toList)) = false := by rw [qu]; rfl
        clear hu
        have qz : decide ((z : Int) ≤ (t.size : Int)) = true := decide_eq_true (by omega)
        have qz' : decide (z ≤ t.size) = true := decide_eq_true hzt
        clear Hkey
        go_wp2_with fail
        go_quiet (fail)
        go_wp2
        all_goals
          go_ret
          refine ⟨by first | rfl | exact congrArg (fun b => Ending.returned (Value.bool b)) (decide_eq_true (by omega)), ?_⟩
          exact ⟨hb2.os, hb2.tape, hb2.output, hb2.size, hb2.block⟩
      case neg =>
        have qu : ((s.extract x a1).toList == (s.extract y a2).toList) = false := by
          rw [beq_eq_false_iff_ne, ByteArray.toList_eq, ByteArray.toList_eq]
          intro e
          exact hu (str_ext e)
        have qu' : (!((s.extract x a1).toList == (s.extract y a2).toList)) = true := by rw [qu]; rfl
        clear Hkey hu
        go_wp2_with fail
        go_quiet (fail)
        go_wp2
        all_goals
          go_ret
          refine ⟨by first | rfl | exact congrArg (fun b => Ending.returned (Value.bool b)) (decide_eq_true (by omega)), ?_⟩
          exact ⟨hb2.os, hb2.tape, hb2.output, hb2.size, hb2.block⟩
end Go.Proofs.Ytkclcjgkicikfaa
