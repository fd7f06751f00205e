/- The walk of pack.Put. -/
import Derived.Test.YtlnobikecmgocaaDoorBuilder
namespace Go.Proofs.YtlnobikecmgocaaDoor
open Go.RowKit
set_option linter.unusedVariables false

/-- The words of a text, in a row. -/
def joinW (l : List ByteArray) (t : List Int) : Wd := t.flatMap fun k => wd (l.getD k.toNat ByteArray.empty)
def textOk (n : Nat) (t : List Int) : Prop := ∀ k ∈ t, 0 ≤ k ∧ k < (n : Int)
/-- Put answers with a text. -/
def packOk (l : List ByteArray) (t : List Int) : Prop := checkC (wds l) = 0 ∧ t.length ≤ 200 ∧ textOk l.length t
theorem joinW_app (l : List ByteArray) (a b : List Int) : joinW l (a ++ b) = joinW l a ++ joinW l b := by unfold joinW; rw [List.flatMap_append]
theorem joinW_len {l : List ByteArray} (h : ∀ k : Nat, (l.getD k ByteArray.empty).size ≤ 12) : ∀ t : List Int, (joinW l t).length ≤ 12 * t.length
  | [] => by simp [joinW]
  | k :: t => by
    have a := joinW_len h t
    have b := h k.toNat
    have e : joinW l (k :: t) = wd (l.getD k.toNat ByteArray.empty) ++ joinW l t := rfl
    rw [e, List.length_append, List.length_cons]
    show (l.getD k.toNat ByteArray.empty).size + _ ≤ _
    omega

set_option maxRecDepth 100000 in
set_option maxHeartbeats 2000000 in
theorem packPut_any (A : Option Addr) (n c B : Nat) (l : List ByteArray) (A' : Option Addr) (m c' B' : Nat) (t : List Int) (w : World) (hn : n ≤ 1125899906842624) (hnc : n ≤ c) (hl : l.length = n) (hz : ∀ p ∈ l, p.size ≤ 140737488351232) (hm : m ≤ 1125899906842624) (ht : t.length = m)
    (h : Reads w B A n 1 (l.flatMap cStr)) (hB : B ≤ w.heap.size) (h' : Reads w B' A' m 1 (t.flatMap cInt)) (hB' : B' ≤ w.heap.size) :
    Calls Tryd.prog 11 #[.slice A n c, .slice A' m c'] w fun e w' => Below w.heap.size w w' ∧
      ((packOk l t ∧ e = .returned (.tuple #[.string (⟨(joinW l t).toArray⟩ : ByteArray), .int .i64 0])) ∨ (¬ packOk l t ∧ ∃ E : Int, E ≠ 0 ∧ e = .returned (.tuple #[.string ⟨#[]⟩, .int .i64 E]))) := by
  have HC := Lib.hid (codeCheck_any A n c B l w hn hnc hl hz h hB)
  by_cases hc : checkC (wds l) = 0
  case neg =>
    have q1 : (checkC (wds l) != 0) = true := by simpa using hc
    have hno : ¬ packOk l t := fun h => hc h.1
    generalize checkC (wds l) = E at *
    go_enter Tryd.func11, Tryd.ntmps11
    go_wp2_with fail
    refine HC.out.mono ?_
    rintro e w1 ⟨rfl, hb1⟩
    go_wp2
    go_ret2
    exact ⟨hb1, .inr ⟨hno, E, hc, rfl⟩⟩
  have hok := (checkC_zero _).1 hc
  rw [hc] at HC
  by_cases hm2 : m ≤ 200
  case neg =>
    have hno : ¬ packOk l t := fun h => by have := h.2.1; omega
    have q1 : decide ((200 : Int) < (m : Int)) = true := decide_eq_true (by omega)
    have q1' : decide (200 < m) = true := decide_eq_true (by omega)
    clear hok hc
    go_enter Tryd.func11, Tryd.ntmps11
    go_wp2_with fail
    refine HC.out.mono ?_
    rintro e w1 ⟨rfl, hb1⟩
    go_wp2
    go_ret2
    exact ⟨hb1, .inr ⟨hno, 2, by decide, rfl⟩⟩
  have q1 : decide ((200 : Int) < (m : Int)) = false := decide_eq_false (by omega)
  have q1' : decide (200 < m) = false := decide_eq_false (by omega)
  have hsz : ∀ k : Nat, (l.getD k ByteArray.empty).size ≤ 12 := fun k => by
    rcases Nat.lt_or_ge k l.length with hk | hk
    · rw [getD_some _ _ _ hk]
      have := hok.len (wd l[k]) (mem_wds.2 (List.getElem_mem _))
      exact this
    · rw [getD_none _ _ _ hk]; decide
  have hyes : textOk n t → packOk l t := fun h => ⟨hc, by omega, by rw [hl]; exact h⟩
  have hnot : ¬ textOk n t → ¬ packOk l t := fun h k => h (by rw [← hl]; exact k.2.2)
  have Hyes := Lib.hid hyes
  have Hnot := Lib.hid hnot
  have Hsz := Lib.hid hsz
  have Hl := Lib.hid hl
  have Ht := Lib.hid ht
  have hn12 : n ≤ 12 := by have := hok.few; unfold wds at this; rw [List.length_map] at this; omega
  clear hok hc hsz hyes hnot hl ht hz
  go_enter Tryd.func11, Tryd.ntmps11
  go_wp2_with fail
  refine HC.out.mono ?_
  rintro e w1 ⟨rfl, hb1⟩
  have hbl := Bld.new w1
  have hb2 : Below w1.heap.size w1 (w1.alloc (.cells #[.pointer none, .slice none 0 0] 51)) := (Below.refl _ _).alloc (Nat.le_refl _) _
  clear q1 q1'
  go_wp2
  go_loopw [9, 20] (fun _ iv wr => ∃ k : Nat, k ≤ m ∧ iv = .int .i64 k ∧ Bld wr w1.heap.size (joinW l (t.take k)) ∧ Hid (textOk n (t.take k)) ∧ Below w1.heap.size w1 wr) (fun _ iv _ => m - (intOf iv).toNat)
  case atStart => exact ⟨0, Nat.zero_le _, rfl, hbl, Lib.hid (fun k hk => by simp at hk), hb2⟩
  case round =>
    clear hbl hb2
    obtain ⟨k, hk, rfl, hbl, Hin, hbr⟩ := hrel
    have hbw := hb1.trans (hbr.mono hb1.size)
    by_cases hlt : k < m
    · obtain ⟨b', o', rfl, hbB', hc'⟩ := (h'.below (hbw.mono hB')).2 (by omega)
      have c0 := hc' (k * 1 + 0) (by rw [flat_length cInt 1 cInt_len, Ht.out]; omega)
      rw [flat_getD cInt 1 cInt_len 0 t k _ (by rw [Ht.out]; omega) (by omega)] at c0
      simp only [cInt, List.getD_cons_zero, Nat.mul_one, Nat.add_zero] at c0
      have hts := take_succ_getD t k 0 (by rw [Ht.out]; omega)
      have hmem : t.getD k 0 ∈ t := by rw [getD_some _ _ _ (by rw [Ht.out]; omega)]; exact List.getElem_mem _
      have hbd := joinW_len Hsz.out (t.take k)
      rw [List.length_take] at hbd
      have Hts := Lib.hid hts
      have Hmem := Lib.hid hmem
      clear hc' hts hmem
      generalize t.getD k 0 = x at *
      by_cases hx0 : x < 0
      · have q2 : decide (x < 0) = true := decide_eq_true hx0
        have hno := Hnot.out (fun h => by have := (h x Hmem.out).1; omega)
        clear hx0
        go_wp2
        go_ret2
        exact ⟨hbw, .inr ⟨hno, 1, by decide, rfl⟩⟩
      have q2 : decide (x < 0) = false := decide_eq_false hx0
      obtain ⟨i, rfl⟩ : ∃ i : Nat, x = i := ⟨x.toNat, by omega⟩
      by_cases hxn : n ≤ i
      · have q3 : decide ((n : Int) ≤ (i : Int)) = true := decide_eq_true (by omega)
        have q3' : decide (n ≤ i) = true := decide_eq_true hxn
        have hno := Hnot.out (fun h => by have := (h i Hmem.out).2; omega)
        clear hx0
        go_wp2
        all_goals (go_ret2; exact ⟨hbw, .inr ⟨hno, 1, by decide, rfl⟩⟩)
      have q3 : decide ((n : Int) ≤ (i : Int)) = false := decide_eq_false (by omega)
      have q3' : decide (n ≤ i) = false := decide_eq_false hxn
      obtain ⟨b, o, rfl, hbB, hcl⟩ := (h.below (hbw.mono hB)).2 (by omega)
      have c1 := hcl (i * 1 + 0) (by rw [flat_length cStr 1 cStr_len, Hl.out]; omega)
      rw [flat_getD cStr 1 cStr_len ByteArray.empty l i _ (by rw [Hl.out]; omega) (by omega)] at c1
      simp only [cStr, List.getD_cons_zero, Nat.mul_one, Nat.add_zero] at c1
      have hsi := Hsz.out i
      have hnx : joinW l (t.take (k + 1)) = joinW l (t.take k) ++ wd (l.getD i ByteArray.empty) := by
        rw [Hts.out, joinW_app]
        congr 1
        show wd (l.getD ((i : Int).toNat) ByteArray.empty) ++ [] = _
        rw [List.append_nil, Int.toNat_natCast]
      have hin : textOk n (t.take (k + 1)) := fun y hy => by
        rw [Hts.out, List.mem_append, List.mem_singleton] at hy
        rcases hy with hy | rfl
        · exact Hin.out y hy
        · omega
      have HW := Lib.hid (fun w2 (hb2 : Bld w2 w1.heap.size (joinW l (t.take k))) => bldWrite w1.heap.size _ (l.getD i ByteArray.empty) w2 hb2 (by omega))
      have Hnx := Lib.hid hnx
      have Hin2 := Lib.hid hin
      generalize l.getD i ByteArray.empty = y at *
      have hin' : (i : Int) < n := by omega
      clear hcl hnx hin hx0 hbd
      go_wp2_with fail
      refine (HW.out _ hbl).mono ?_
      rintro e w3 ⟨rfl, hbl3, hb3⟩
      have hbr3 := hbr.trans hb3
      rw [← Hnx.out] at hbl3
      go_wp2
      go_roundw
      case rel => exact ⟨k + 1, by omega, by go_num, hbl3, Hin2, hbr3⟩
      case measure => simp [intOf]; omega
    · obtain rfl : k = m := by omega
      have e : t.take k = t := List.take_of_length_le (by rw [Ht.out]; exact Nat.le_refl _)
      rw [e] at hbl Hin
      have hy := Hyes.out Hin.out
      have HST := Lib.hid (bldString w1.heap.size _ _ hbl)
      clear e
      go_wp2_with fail
      refine HST.out.mono ?_
      rintro e w3 ⟨rfl, hb3⟩
      have hb4 := hbw.trans (hb3.mono hb1.size)
      go_wp2
      go_ret2
      exact ⟨hb4, .inl ⟨hy, rfl⟩⟩
end Go.Proofs.YtlnobikecmgocaaDoor
