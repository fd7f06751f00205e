/- MirrorLongest's walk: the longest palindrome is one, stands in the word, and no other part of the word that is one is longer. -/
import Derived.Test.YtjdeckjkcpglcaaMirrors
import Derived.Test.YtjdeckjkcpglcaaMirrorLongP
import Derived.Test.YtjdeckjkcpglcaaMaxInt
import Derived.Test.YtjdeckjkcpglcaaKeep
import Derived.Test.YtjdeckjkcpglcaaMaxLen
import Derived.Test.YtjdeckjkcpglcaaLaidContains
import Derived.OpenShut
namespace Go.Proofs.Ytjdeckjkcpglcaa
open Go.RowKit Go.Sort
set_option linter.unusedVariables false

theorem contains_any (s t : ByteArray) (hs : s.size ≤ 4294967280) (w : World) (h : MaxL w) :
    Calls Try.prog 9 #[.string s, .string t] w fun e w' => e = .returned (.bool (Lib.contains s.data.toList t.data.toList)) ∧ w = w' := by
  obtain ⟨m, hm⟩ := h
  refine (Any.strings_Contains laysCn s t m w (by omega) hm).mono ?_
  rintro e w' ⟨rfl, rfl⟩
  exact ⟨rfl, rfl⟩

theorem ints_rowM {w : World} {g n : Nat} {l : List Int} (h : IntsAt w g l) (hn : l.length = n) : Reads w w.heap.size (some ⟨g, 0, none⟩) n 1 (l.flatMap cInt) := by
  subst hn
  refine ⟨flat_length cInt 1 cInt_len l, fun hn => ⟨g, 0, rfl, h.1, fun j hj => ?_⟩⟩
  rw [flat_length cInt 1 cInt_len, Nat.mul_one] at hj
  rw [Nat.zero_add, (h.2 j hj).1]
  have := flat_getD cInt 1 cInt_len 0 l j 0 hj (by omega)
  rw [Nat.mul_one, Nat.add_zero] at this
  rw [this]; rfl

set_option maxRecDepth 100000 in
set_option maxHeartbeats 4000000 in
theorem mirrorLongest_walk (s : ByteArray) (i k : Int) (hs0 : s.size ≤ 140737488351232) (hi : (Lit.int .i64 i).wf = true) (hk : (Lit.int .i64 k).wf = true) {w : World} (hm : MaxL w) :
    Calls Try.prog 3 #[.string s, .int .i64 i, .int .i64 k] w fun e w' => e = .returned (.bool true) ∧ Below w.heap.size w w' := by
  by_cases hsz : s.size ≤ 200
  case neg =>
    have H1 := Lib.hid (longest_no s (by omega))
    have H2 := Lib.hid (arms_no s (by omega))
    go_enter Try.func3, Try.ntmps3
    go_wp2_with fail
    refine (mirrors_any _).mono ?_
    rintro e w1 ⟨rfl, hb1⟩
    go_wp2_with fail
    refine (H1.out _).mono ?_
    rintro e w2 ⟨rfl, rfl⟩
    go_wp2_with fail
    refine (H2.out _).mono ?_
    rintro e w2 ⟨rfl, rfl⟩
    go_wp2
    all_goals (go_ret; exact ⟨by simp, hb1⟩)
  have H1 := Lib.hid (longest_ok s hsz)
  have H2 := Lib.hid (arms_ok s hsz)
  go_enter Try.func3, Try.ntmps3
  go_wp2_with fail
  refine (mirrors_any _).mono ?_
  rintro e w1 ⟨rfl, hb1⟩
  go_wp2_with fail
  refine (H1.out _).mono ?_
  rintro e w2 ⟨f, a, n, hf, hb, rfl, hb2⟩
  have hb2 := chain hb2 hb1
  obtain ⟨g1, g2, g3, g4, g5⟩ := longest_facts (s := s.data.toList) hf hb
  go_wp2_with fail
  refine (H2.out _).mono ?_
  rintro e w3 ⟨g, l, rfl, hl, hat, hv, hb3⟩
  have hb3 := chain hb3 hb2
  have hlf : ∀ j, j < 2 * s.size + 1 → l.getD j 0 = (f j : Int) := fun j hj => by
    obtain ⟨m, e1, e2⟩ := hv j hj
    rw [e1, isArm_unique e2 (hf j hj)]
  have hmx : ∀ x, IsMaxI l x → x = (n : Int) := fun x hx => max_is hl hlf g4 g5 hx.1 hx.2
  have g1 : a + n ≤ s.size := g1
  have et : s.extract a (a + n) = ⟨(seg s.data.toList a n).toArray⟩ := by rw [ext_seg, Nat.add_sub_cancel_left]
  have htl : (s.extract a (a + n)).data.toList = seg s.data.toList a n := by rw [et]
  have hts : (s.extract a (a + n)).size = n := by rw [ByteArray.size_extract]; omega
  have hback : (⟨(s.extract a (a + n)).data.toList.reverse.toArray⟩ : ByteArray) = s.extract a (a + n) := by rw [htl, g2, et]
  have hcon : Lib.contains s.data.toList (s.extract a (a + n)).data.toList = true := by rw [htl]; exact contains_of (show a ≤ s.size by omega) (seg_prefix _ _ _)
  have HB := Lib.hid (fun w => back_any (s.extract a (a + n)) (by omega) w)
  rw [hback] at HB
  have HC := Lib.hid (contains_any s (s.extract a (a + n)) (by omega))
  rw [hcon] at HC
  have hm3 := hm.after hb3
  have G3 := Lib.hid g3
  have Hmx := Lib.hid hmx
  clear hback hcon htl et hf hb hv hlf hmx g2 g3 g4 g5 H1 H2
  generalize s.extract a (a + n) = t at *
  have hw1 := within_any i (s.size + 1) (by omega) (by omega)
  have hw2 := within_any k (s.size + 1) (by omega) (by omega)
  have hb_i := And.intro (Int.emod_nonneg i (show (s.size : Int) + 1 ≠ 0 by omega)) (Int.emod_lt_of_pos i (show (0 : Int) < s.size + 1 by omega))
  have hb_k := And.intro (Int.emod_nonneg k (show (s.size : Int) + 1 ≠ 0 by omega)) (Int.emod_lt_of_pos k (show (0 : Int) < s.size + 1 by omega))
  obtain ⟨x, hx⟩ : ∃ x : Nat, i % ((s.size : Int) + 1) = x := ⟨(i % ((s.size : Int) + 1)).toNat, by omega⟩
  obtain ⟨y, hy⟩ : ∃ y : Nat, k % ((s.size : Int) + 1) = y := ⟨(k % ((s.size : Int) + 1)).toNat, by omega⟩
  rw [hx] at hw1 hb_i
  rw [hy] at hw2 hb_k
  have W1 := Lib.hid hw1
  have W2 := Lib.hid hw2
  clear hw1 hw2 hx hy hi hk hs0 hb1 hb2 hm
  have hx : x ≤ s.size := by omega
  have hy : y ≤ s.size := by omega
  clear hb_i hb_k
  have hq : (((2 * s.size + 1 : Nat) : Int) == 0) = false := by rw [beq_eq_false_iff_ne]; omega
  go_wp2_with fail
  refine (W1.out _).mono ?_
  rintro e w4 ⟨rfl, rfl⟩
  go_wp2_with fail
  refine (W2.out _).mono ?_
  rintro e w4 ⟨rfl, rfl⟩
  obtain ⟨p, hp⟩ : ∃ p, p = min x y := ⟨_, rfl⟩
  obtain ⟨q, hq2⟩ : ∃ q, q = max x y := ⟨_, rfl⟩
  have hmin : ∀ (ats : Array TypeId) (t : TypeId) (w : World), (Builtin.min_ ats t #[.int .i64 (x : Int), .int .i64 (y : Int)]).run Try.prog w = .ok (.int .i64 (p : Int)) w := fun ats t w => by
    rw [run_min_int2]; congr 2; omega
  have hmax : ∀ (ats : Array TypeId) (t : TypeId) (w : World), (Builtin.max_ ats t #[.int .i64 (x : Int), .int .i64 (y : Int)]).run Try.prog w = .ok (.int .i64 (q : Int)) w := fun ats t w => by
    rw [run_max_int2]; congr 2; omega
  have i1 : p ≤ q := by omega
  have i1' : (p : Int) ≤ (q : Int) := by omega
  have i2 : q ≤ s.size := by omega
  have i2' : (q : Int) ≤ (s.size : Int) := by omega
  have hpq : s.extract p q = ⟨(seg s.data.toList p (q - p)).toArray⟩ := ext_seg s p q
  have hul : (s.extract p q).data.toList = seg s.data.toList p (q - p) := by rw [hpq]
  have hus : (s.extract p q).size = q - p := by rw [ByteArray.size_extract]; omega
  have hrv : (⟨(s.extract p q).data.toList.reverse.toArray⟩ : ByteArray) = s.extract p q → q - p ≤ n := fun e => by
    refine G3.out p (q - p) (by show p + (q - p) ≤ s.size; omega) ?_
    rw [← hul]
    have := congrArg (fun b : ByteArray => b.data.toList) e
    simpa using this
  have HU := Lib.hid (fun w => back_any (s.extract p q) (by omega) w)
  have Hrv := Lib.hid hrv
  clear hp hq2 hul hrv hpq G3 g1
  generalize hU : s.extract p q = u at *
  generalize hV : (⟨u.data.toList.reverse.toArray⟩ : ByteArray) = v at *
  have hrow := ints_rowM hat hl
  clear hat hV
  go_wp2_with fail
  refine (HB.out _).mono ?_
  rintro e w5 ⟨rfl, hb5⟩
  have hm5 := hm3.after hb5
  have hrow5 := hrow.after hb5
  have hb5 := chain hb5 hb3
  have qt : (t.toList == t.toList) = true := beq_self_eq_true _
  clear hm3 hrow hb3
  go_wp2_with fail
  refine (HC.out _ hm5).mono ?_
  rintro e w6 ⟨rfl, rfl⟩
  go_wp2_with fail
  refine (maxInt_any _ (2 * s.size + 1) _ _ l w5 (by omega) (by omega) (by assumption) hrow5).mono ?_
  rintro e w6 ⟨⟨X, rfl, hX⟩, rfl⟩
  obtain rfl := Hmx.out X hX
  have hts' : (t.size : Int) = (n : Int) := by omega
  clear hX Hmx hrow5 hm5 hl
  go_wp2_with fail
  refine (HU.out _).mono ?_
  rintro e w6 ⟨rfl, hb6⟩
  have hb6 := chain hb6 hb5
  clear hb5 HU
  by_cases huv : v = u
  case pos =>
    have hle := Hrv.out huv
    have hun : u.size ≤ n := by omega
    have qz : decide ((u.size : Int) ≤ (t.size : Int)) = true := decide_eq_true (by omega)
    have qz' : decide (u.size ≤ t.size) = true := decide_eq_true (by omega)
    have qu : (v.toList == u.toList) = true := by rw [huv]; exact beq_self_eq_true _
    have qu' : (!(v.toList == u.toList)) = false := by rw [qu]; rfl
    clear huv hle Hrv hus
    go_wp2
    all_goals (go_ret; exact ⟨by first | rfl | (simp; exact hun), hb6⟩)
  case neg =>
    have qu : (v.toList == u.toList) = false := by
      rw [beq_eq_false_iff_ne, ByteArray.toList_eq, ByteArray.toList_eq]
      intro e
      exact huv (str_ext e)
    have qu' : (!(v.toList == u.toList)) = true := by rw [qu]; rfl
    clear huv Hrv hus
    go_wp2
    all_goals (go_ret; exact ⟨by first | rfl | simp, hb6⟩)
end Go.Proofs.Ytjdeckjkcpglcaa
