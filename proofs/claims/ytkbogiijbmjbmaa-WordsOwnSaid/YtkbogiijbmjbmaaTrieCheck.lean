/- The walk of trie.Check. -/
import Derived.Test.YtkbogiijbmjbmaaTrieP
import Derived.Test.YtkbogiijbmjbmaaStruct
namespace Go.Proofs.Ytkbogiijbmjbmaa
open Go.RowKit
set_option linter.unusedVariables false

theorem take_reads {w : World} {B n k b o : Nat} {l : List ByteArray} (hl : l.length = n) (h : Reads w B (some ⟨b, o, none⟩) n 1 (l.flatMap cStr)) (hk : k ≤ n) : Reads w B (some ⟨b, o, none⟩) k 1 ((l.take k).flatMap cStr) := by
  refine ⟨by rw [flat_length cStr 1 cStr_len, List.length_take, hl]; omega, fun hk0 => ?_⟩
  obtain ⟨b', o', e, hb, hc⟩ := h.2 (by omega)
  injection e with e
  injection e with e1 e2
  subst e1 e2
  refine ⟨b, o, rfl, hb, fun j hj => ?_⟩
  rw [flat_length cStr 1 cStr_len, List.length_take, hl] at hj
  have := hc j (by rw [flat_length cStr 1 cStr_len, hl]; omega)
  rw [this]
  have e1 := flat_getD cStr 1 cStr_len ByteArray.empty l j 0 (by rw [hl]; omega) (by omega)
  have e2 := flat_getD cStr 1 cStr_len ByteArray.empty (l.take k) j 0 (by rw [List.length_take, hl]; omega) (by omega)
  simp only [Nat.mul_one, Nat.add_zero] at e1 e2
  rw [e1, e2, getD_take _ _ _ _ (by omega)]
theorem empty_of {x : ByteArray} (h : x.size = 0) : x = ⟨#[]⟩ := by
  obtain ⟨⟨l⟩⟩ := x
  cases l with
  | nil => rfl
  | cons a l => simp [ByteArray.size] at h

set_option maxHeartbeats 2000000 in
theorem trieCheck_any (A : Option Addr) (n c B : Nat) (l : List ByteArray) (w : World) (hn : n ≤ 1125899906842624) (hnc : n ≤ c) (hl : l.length = n) (hz : ∀ p ∈ l, p.size ≤ 140737488351232) (h : Reads w B A n 1 (l.flatMap cStr)) (hB : B ≤ w.heap.size) :
    Calls Try.prog 28 #[.slice A n c] w fun e w' => e = .returned (.int .i64 (checkP l)) ∧ Below w.heap.size w w' := by
  by_cases hn2 : n ≤ 10
  case neg =>
    have e0 : checkP l = 2 := by unfold checkP; rw [if_pos (by omega)]
    rw [e0]
    have q1 : decide ((10 : Int) < (n : Int)) = true := decide_eq_true (by omega)
    have q1' : decide (10 < n) = true := decide_eq_true (by omega)
    go_enter Try.func28, Try.ntmps28
    go_wp2
    go_ret
    exact ⟨rfl, Below.refl _ _⟩
  have Hl := Lib.hid hl
  have Hz := Lib.hid hz
  have q1 : decide ((10 : Int) < (n : Int)) = false := decide_eq_false (by omega)
  have q1' : decide (10 < n) = false := decide_eq_false (by omega)
  obtain ⟨E, hE⟩ : ∃ E, E = checkP l := ⟨_, rfl⟩
  rw [← hE]
  have hE2 : E = checkG [] l := by rw [hE]; unfold checkP; rw [if_neg (by omega)]
  have HE := Lib.hid hE2
  clear hE hE2 hl hz
  go_enter Try.func28, Try.ntmps28
  go_wp2
  go_loopw [3, 4, 10] (fun _ _ i wr => ∃ k : Nat, k ≤ n ∧ i = .int .i64 k ∧ Hid (checkG [] (l.take k) = 0) ∧ Below w.heap.size w wr) (fun _ _ i _ => n - (intOf i).toNat)
  case atStart => exact ⟨0, Nat.zero_le _, rfl, Lib.hid (by simp [checkG]), Below.refl _ _⟩
  case round =>
    obtain ⟨k, hk, rfl, H0, hbr⟩ := hrel
    by_cases hlt : k < n
    · have h := h.below (hbr.mono hB)
      obtain ⟨b, o, rfl, hbB, hc⟩ := h.2 (by omega)
      have c0 := hc (k * 1 + 0) (by rw [flat_length cStr 1 cStr_len, Hl.out]; omega)
      rw [flat_getD cStr 1 cStr_len ByteArray.empty l k _ (by rw [Hl.out]; omega) (by omega)] at c0
      simp only [cStr, List.getD_cons_zero, Nat.mul_one, Nat.add_zero] at c0
      have hdr : l = l.take k ++ l.getD k ByteArray.empty :: l.drop (k + 1) := by
        rw [getD_some _ _ _ (by rw [Hl.out]; exact hlt), ← List.drop_eq_getElem_cons, List.take_append_drop]
      have hts := take_succ_getD l k ByteArray.empty (by rw [Hl.out]; omega)
      have hmem : l.getD k ByteArray.empty ∈ l := by rw [getD_some _ _ _ (by rw [Hl.out]; omega)]; exact List.getElem_mem _
      have hxs := Hz.out _ hmem
      have htr := take_reads Hl.out h hk
      have hct := fun c2 => containsStr_any (l.getD k ByteArray.empty) (some ⟨b, o, none⟩) k c2 B (l.take k) wr (by omega) (by rw [List.length_take, Hl.out]; omega) htr
      have Hct := Lib.hid hct
      have Hdr := Lib.hid hdr
      have Hts := Lib.hid hts
      clear hc hts hmem hdr hct htr
      generalize hx : l.getD k ByteArray.empty = x at *
      have ilt : (k : Int) < n := by omega
      have hbad : ∀ E', wordT (l.take k) x = E' → E' ≠ 0 → E = E' := fun E' h1 h2 => by
        rw [HE.out, Hdr.out, checkG_bad _ _ _ _ H0.out (by rw [List.nil_append, h1]; exact h2), List.nil_append, h1]
      have hgood : wordT (l.take k) x = 0 → checkG [] (l.take (k + 1)) = 0 := fun h1 => by
        rw [Hts.out]
        exact checkG_good _ _ _ H0.out (by rw [List.nil_append]; exact h1)
      have Hbad := Lib.hid hbad
      have Hgood := Lib.hid hgood
      clear hbad hgood hx
      by_cases he : x.size = 0
      · obtain rfl := empty_of he
        obtain rfl := Hbad.out 5 (by unfold wordT; exact if_pos rfl) (by decide)
        clear he
        go_wp2
        go_ret
        exact ⟨rfl, hbr⟩
      have hne : x.data.toList ≠ [] := fun e => he (by show x.data.toList.length = 0; rw [e]; rfl)
      have q2 : (x.toList == []) = false := by rw [ByteArray.toList_eq]; simpa using hne
      have q2' : x.toList.isEmpty = false := by rw [ByteArray.toList_eq, List.isEmpty_eq_false_iff]; exact hne
      by_cases hlong : 20 < x.size
      · have q3 : decide ((20 : Int) < (x.size : Int)) = true := decide_eq_true (by omega)
        have q3' : decide (20 < x.size) = true := decide_eq_true hlong
        obtain rfl := Hbad.out 2 (by unfold wordT; rw [if_neg he, if_pos hlong]) (by decide)
        clear he
        go_wp2
        go_ret
        exact ⟨rfl, hbr⟩
      have q3 : decide ((20 : Int) < (x.size : Int)) = false := decide_eq_false (by omega)
      have q3' : decide (20 < x.size) = false := decide_eq_false hlong
      by_cases hin : hasB x (l.take k) = true
      · obtain rfl := Hbad.out 10 (by unfold wordT; rw [if_neg he, if_neg hlong, if_pos hin]) (by decide)
        clear he
        go_wp2_with fail
        refine (Hct.out _).mono ?_
        rintro e w2 ⟨rfl, rfl⟩
        go_wp2
        go_ret
        exact ⟨rfl, hbr⟩
      · have hok := Hgood.out (by unfold wordT; rw [if_neg he, if_neg hlong, if_neg hin])
        have Hok := Lib.hid hok
        have hin' : hasB x (l.take k) = false := by simpa using hin
        clear he hok hin
        go_wp2_with fail
        refine (Hct.out _).mono ?_
        rintro e w2 ⟨rfl, rfl⟩
        go_wp2
        go_roundw
        case rel => exact ⟨k + 1, by omega, by go_num, Lib.hid Hok.out, hbr⟩
        case measure => simp [intOf]; omega
    · obtain rfl : k = n := by omega
      have e : l.take k = l := List.take_of_length_le (by rw [Hl.out]; omega)
      rw [e] at H0
      obtain rfl : E = 0 := by rw [HE.out]; exact H0.out
      go_wp2
      go_ret
      exact ⟨rfl, hbr⟩
end Go.Proofs.Ytkbogiijbmjbmaa
