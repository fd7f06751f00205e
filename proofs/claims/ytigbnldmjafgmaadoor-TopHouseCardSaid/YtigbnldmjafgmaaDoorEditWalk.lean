/- The walks of edit.Check and edit.Apply. -/
import Derived.Test.YtigbnldmjafgmaaDoorRows
import Derived.Test.YtigbnldmjafgmaaDoorLib
import Derived.Test.YtigbnldmjafgmaaDoorEdit
import Derived.Test.YtigbnldmjafgmaaDoorStruct
import Derived.Test.YtigbnldmjafgmaaDoorBack
import Derived.Deep.QuietTactic
import Derived.BigQuiet
import Derived.Deep.DeepMust
namespace Go.Proofs.YtigbnldmjafgmaaDoor
open Go.RowKit
set_option linter.unusedVariables false

set_option maxHeartbeats 1000000 in
theorem check_any (n : Int) (hn : -9223372036854775808 ≤ n ∧ n ≤ 9223372036854775807) (A : Option Addr) (len c B0 : Nat) (l : List Ed) (hlen : len ≤ 4398046511104) (hl : l.length = len) (ho : ∀ x ∈ l, (-9223372036854775808 ≤ x.1 ∧ x.1 ≤ 9223372036854775807) ∧ (-9223372036854775808 ≤ x.2.1 ∧ x.2.1 ≤ 9223372036854775807) ∧ (x.2.2).size ≤ 140737488351232)
    (w : World) (h : Reads w B0 A len 3 (l.flatMap cEdit)) (hB0 : B0 ≤ w.heap.size) :
    Calls Tryd.prog 76 #[.int .i64 n, .slice A len c] w fun e w' => e = .returned (.int .i64 (checkE n l)) ∧ Below w.heap.size w w' := by
  have hcE : checkE n l = if n < 0 ∨ 200 < n then 1 else if 20 < l.length then 2 else chk n true 0 n l := rfl
  rw [hl] at hcE
  have HcE := Lib.hid hcE
  clear hcE
  generalize hR : checkE n l = R at HcE ⊢
  have Hl := Lib.hid hl
  clear hR hl
  by_cases h1 : n < 0
  · have e1 : R = 1 := by rw [HcE.out, if_pos (.inl h1)]
    have e1 := e1.symm
    subst e1
    have q1 : decide (n < 0) = true := decide_eq_true h1
    go_enter Tryd.func76, Tryd.ntmps76
    go_wp2
    go_ret
    exact ⟨rfl, Below.refl _ _⟩
  by_cases h2 : 200 < n
  · have e1 : R = 1 := by rw [HcE.out, if_pos (.inr h2)]
    have e1 := e1.symm
    subst e1
    have q1 : decide (n < 0) = false := decide_eq_false h1
    have q2 : decide (200 < n) = true := decide_eq_true h2
    go_enter Tryd.func76, Tryd.ntmps76
    go_wp2
    go_ret
    exact ⟨rfl, Below.refl _ _⟩
  by_cases h3 : 20 < len
  · have e1 : R = 2 := by rw [HcE.out, if_neg (by omega), if_pos h3]
    have e1 := e1.symm
    subst e1
    have q1 : decide (n < 0) = false := decide_eq_false h1
    have q2 : decide (200 < n) = false := decide_eq_false h2
    have q3 : decide ((20 : Int) < (len : Int)) = true := decide_eq_true (by omega)
    go_enter Tryd.func76, Tryd.ntmps76
    go_wp2
    go_ret
    exact ⟨rfl, Below.refl _ _⟩
  have e0 : R = chk n true 0 n l := by rw [HcE.out, if_neg (by omega), if_neg h3]
  have E0 := Lib.hid e0
  clear e0 HcE
  have q1 : decide (n < 0) = false := decide_eq_false h1
  have q2 : decide (200 < n) = false := decide_eq_false h2
  have q3 : decide ((20 : Int) < (len : Int)) = false := decide_eq_false (by omega)
  go_enter Tryd.func76, Tryd.ntmps76
  go_wp2
  go_loopw [5, 6, 7, 8, 21] (fun ev zv _ _ i wr => ∃ (k : Nat) (E Z : Int), k ≤ len ∧ i = .int .i64 k ∧ ev = .int .i64 E ∧ zv = .int .i64 Z ∧ 0 ≤ E ∧ E ≤ 200 ∧ -200 * (k : Int) ≤ Z ∧ Z ≤ 200 + 40 * (k : Int) ∧ R = chk n (k == 0) E Z (l.drop k) ∧ Below w.heap.size w wr)
    (fun _ _ _ _ i _ => len - (intOf i).toNat)
  case atStart => exact ⟨0, 0, n, Nat.zero_le _, rfl, rfl, rfl, by omega, by omega, by omega, by omega, E0.out, Below.refl _ _⟩
  case round =>
    obtain ⟨k, E, Z, hk, rfl, rfl, rfl, hE0, hE1, hZ0, hZ1, hR, hbr⟩ := hrel
    by_cases hlt : k < len
    · have h := h.below' hbr hB0
      obtain ⟨b, o, rfl, hbB, hc⟩ := h.2 (by omega)
      have c0 := hc (k * 3 + 0) (by rw [flat_length cEdit 3 cEdit_len, Hl.out]; omega)
      have c1 := hc (k * 3 + 1) (by rw [flat_length cEdit 3 cEdit_len, Hl.out]; omega)
      have c2 := hc (k * 3 + 2) (by rw [flat_length cEdit 3 cEdit_len, Hl.out]; omega)
      have dE : Ed := (0, 0, ByteArray.empty)
      rw [flat_getD cEdit 3 cEdit_len dE l k _ (by rw [Hl.out]; omega) (by omega)] at c0 c1 c2
      simp only [cEdit, List.getD_cons_zero, List.getD_cons_succ, Nat.add_zero, ← Nat.add_assoc] at c0 c1 c2
      have hx := ho (l.getD k dE) (by rw [getD_some _ _ _ (by rw [Hl.out]; omega)]; exact List.getElem_mem _)
      rw [drop_getD l k dE (by rw [Hl.out]; omega), chk] at hR
      generalize l.getD k dE = x at *
      obtain ⟨at_, del, ins⟩ := x
      simp only at c0 c1 c2 hx hR
      have HR := Lib.hid hR
      clear hR hc
      have hbB' : b < wr.heap.size := by have := hbr.size; omega
      by_cases a1 : at_ < 0
      · have p1 : decide (at_ < 0) = true := decide_eq_true a1
        have e1 : R = 1 := by rw [HR.out, if_pos (.inl a1)]
        have E1 := Lib.hid e1
        clear e1 HR
        go_wp2
        go_ret
        exact ⟨by rw [E1.out]; rfl, hbr.alloc hbr.size _⟩
      have p1 : decide (at_ < 0) = false := decide_eq_false a1
      by_cases a2 : del < 0
      · have p2 : decide (del < 0) = true := decide_eq_true a2
        have e1 : R = 1 := by rw [HR.out, if_pos (.inr (.inl a2))]
        have E1 := Lib.hid e1
        clear e1 HR
        go_wp2
        go_ret
        exact ⟨by rw [E1.out]; rfl, hbr.alloc hbr.size _⟩
      have p2 : decide (del < 0) = false := decide_eq_false a2
      by_cases a3 : n < at_
      · have p3 : decide (n < at_) = true := decide_eq_true a3
        have e1 : R = 1 := by rw [HR.out, if_pos (.inr (.inr (.inl a3)))]
        have E1 := Lib.hid e1
        clear e1 HR
        go_wp2
        go_ret
        exact ⟨by rw [E1.out]; rfl, hbr.alloc hbr.size _⟩
      have p3 : decide (n < at_) = false := decide_eq_false a3
      by_cases a4 : n - at_ < del
      · have p4 : decide (n - at_ < del) = true := decide_eq_true a4
        have e1 : R = 1 := by rw [HR.out, if_pos (.inr (.inr (.inr a4)))]
        have E1 := Lib.hid e1
        clear e1 HR
        go_wp2
        go_ret
        exact ⟨by rw [E1.out]; rfl, hbr.alloc hbr.size _⟩
      have p4 : decide (n - at_ < del) = false := decide_eq_false a4
      have g1 : ¬ (at_ < 0 ∨ del < 0 ∨ n < at_ ∨ n - at_ < del) := by omega
      by_cases a5 : 40 < ins.size
      · have p5 : decide ((40 : Int) < (ins.size : Int)) = true := decide_eq_true (by omega)
        have e1 : R = 2 := by rw [HR.out, if_neg g1, if_pos a5]
        have E1 := Lib.hid e1
        clear e1 HR
        go_wp2
        go_ret
        exact ⟨by rw [E1.out]; rfl, hbr.alloc hbr.size _⟩
      have p5 : decide ((40 : Int) < (ins.size : Int)) = false := decide_eq_false (by omega)
      have g2 : ¬ 40 < ins.size := a5
      by_cases a6 : del = 0 ∧ ins.size = 0
      · obtain ⟨a6, a6'⟩ := a6
        have e1 : R = 5 := by rw [HR.out, if_neg g1, if_neg g2, if_pos ⟨a6, a6'⟩]
        have E1 := Lib.hid e1
        clear e1 HR
        subst a6
        have hi : ins = ⟨#[]⟩ := ba_ext (by rw [List.eq_nil_of_length_eq_zero (show ins.data.toList.length = 0 from a6')])
        subst hi
        go_wp2
        go_ret
        exact ⟨by rw [E1.out]; rfl, hbr.alloc hbr.size _⟩
      by_cases a7 : del = 0
      · have a6' : ins.size ≠ 0 := fun hh => a6 ⟨a7, hh⟩
        have p6 : (del == 0) = true := by simp [a7]
        have p7 : (ins.toList == []) = false := by
          rw [ByteArray.toList_eq, beq_eq_false_iff_ne]
          intro hh
          exact a6' (show ins.data.toList.length = 0 by rw [hh]; rfl)
        by_cases a8 : 0 < k ∧ at_ ≤ E
        · obtain ⟨a8, a9⟩ := a8
          have p8 : decide ((0 : Int) < (k : Int)) = true := decide_eq_true (by omega)
          have p9 : decide (at_ ≤ E) = true := decide_eq_true a9
          have e1 : R = 6 := by rw [HR.out, if_neg g1, if_neg g2, if_neg a6, if_pos ⟨by simp; omega, a9⟩]
          have E1 := Lib.hid e1
          clear e1 HR
          go_wp2
          go_ret
          exact ⟨by rw [E1.out]; rfl, hbr.alloc hbr.size _⟩
        have e1 : R = chk n (k + 1 == 0) (at_ + del) (Z + (ins.size - del)) (l.drop (k + 1)) := by
          rw [HR.out, if_neg g1, if_neg g2, if_neg a6, if_neg (fun hh => a8 ⟨by have := hh.1; simp at this; omega, hh.2⟩)]
          rfl
        have E1 := Lib.hid e1
        clear e1 HR
        rcases Nat.eq_zero_or_pos k with k0 | k0
        · subst k0
          simp only [Nat.zero_mul, Nat.add_zero] at c0 c1 c2
          have p8 : decide ((0 : Int) < ((0 : Nat) : Int)) = false := by decide
          go_wp2
          go_roundw
          case rel => exact ⟨_, at_ + del, Z + (ins.size - del), by omega, by go_num, by go_num, by go_num, by omega, by omega, by omega, by omega, E1.out, hbr.alloc hbr.size _⟩
          case measure => simp only [intOf]; omega
        · have p8 : decide ((0 : Int) < (k : Int)) = true := decide_eq_true (by omega)
          have p9 : decide (at_ ≤ E) = false := decide_eq_false (fun hh => a8 ⟨k0, hh⟩)
          go_wp2
          go_roundw
          case rel => exact ⟨_, at_ + del, Z + (ins.size - del), by omega, by go_num, by go_num, by go_num, by omega, by omega, by omega, by omega, E1.out, hbr.alloc hbr.size _⟩
          case measure => simp only [intOf]; omega
      · have p6 : (del == 0) = false := by simpa using a7
        by_cases a8 : 0 < k ∧ at_ ≤ E
        · obtain ⟨a8, a9⟩ := a8
          have p8 : decide ((0 : Int) < (k : Int)) = true := decide_eq_true (by omega)
          have p9 : decide (at_ ≤ E) = true := decide_eq_true a9
          have e1 : R = 6 := by rw [HR.out, if_neg g1, if_neg g2, if_neg a6, if_pos ⟨by simp; omega, a9⟩]
          have E1 := Lib.hid e1
          clear e1 HR
          go_wp2
          go_ret
          exact ⟨by rw [E1.out]; rfl, hbr.alloc hbr.size _⟩
        have e1 : R = chk n (k + 1 == 0) (at_ + del) (Z + (ins.size - del)) (l.drop (k + 1)) := by
          rw [HR.out, if_neg g1, if_neg g2, if_neg a6, if_neg (fun hh => a8 ⟨by have := hh.1; simp at this; omega, hh.2⟩)]
          rfl
        have E1 := Lib.hid e1
        clear e1 HR
        rcases Nat.eq_zero_or_pos k with k0 | k0
        · subst k0
          simp only [Nat.zero_mul, Nat.add_zero] at c0 c1 c2
          have p8 : decide ((0 : Int) < ((0 : Nat) : Int)) = false := by decide
          go_wp2
          go_roundw
          case rel => exact ⟨_, at_ + del, Z + (ins.size - del), by omega, by go_num, by go_num, by go_num, by omega, by omega, by omega, by omega, E1.out, hbr.alloc hbr.size _⟩
          case measure => simp only [intOf]; omega
        · have p8 : decide ((0 : Int) < (k : Int)) = true := decide_eq_true (by omega)
          have p9 : decide (at_ ≤ E) = false := decide_eq_false (fun hh => a8 ⟨k0, hh⟩)
          go_wp2
          go_roundw
          case rel => exact ⟨_, at_ + del, Z + (ins.size - del), by omega, by go_num, by go_num, by go_num, by omega, by omega, by omega, by omega, E1.out, hbr.alloc hbr.size _⟩
          case measure => simp only [intOf]; omega
    · obtain rfl : k = len := by omega
      have e : l.drop k = [] := List.drop_of_length_le (by rw [Hl.out]; omega)
      rw [e, chk] at hR
      by_cases hz : 200 < Z
      · rw [if_pos hz] at hR
        have q4 : decide (200 < Z) = true := decide_eq_true hz
        have HR := Lib.hid hR
        clear hR
        go_wp2
        go_ret
        exact ⟨by rw [HR.out]; rfl, hbr⟩
      · rw [if_neg hz] at hR
        have q4 : decide (200 < Z) = false := decide_eq_false hz
        have HR := Lib.hid hR
        clear hR
        go_wp2
        go_ret
        exact ⟨by rw [HR.out]; rfl, hbr⟩

end Go.Proofs.YtigbnldmjafgmaaDoor
