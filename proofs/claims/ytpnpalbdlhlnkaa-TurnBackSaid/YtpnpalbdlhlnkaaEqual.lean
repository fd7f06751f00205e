/- The walks of slices.Equal at the element types that the laws use: two slices are equal just if they read as the same list. -/
import Derived.Test.YtpnpalbdlhlnkaaRows
import Derived.Test.YtpnpalbdlhlnkaaLib
import Derived.Test.YtpnpalbdlhlnkaaPlain
import Derived.Test.YtpnpalbdlhlnkaaStruct
import Derived.Deep.QuietTactic
import Derived.BigQuiet
namespace Go.Proofs.Ytpnpalbdlhlnkaa
open Go.RowKit
set_option linter.unusedVariables false

theorem decide_cut {α : Type} [DecidableEq α] {l l' : List α} {k n : Nat} (d : α) (hl : l.length = n) (hl' : l'.length = n) (hk : k < n) (h : l.getD k d ≠ l'.getD k d) : decide (l = l') = false := by
  rw [decide_eq_false_iff_not]
  intro e
  exact h (by rw [e])
theorem decide_all {α : Type} [DecidableEq α] {l l' : List α} {n : Nat} (hl : l.length = n) (hl' : l'.length = n) (h : l.take n = l'.take n) : decide (l = l') = true := by
  rw [decide_eq_true_eq]
  rwa [List.take_of_length_le (by omega), List.take_of_length_le (by omega)] at h

theorem nebRun (x y : UInt8 × Int) (h : x ≠ y) : (((x.1).toNat : Int) == ((y.1).toNat : Int) && x.2 == y.2) = false := by
  rw [Bool.eq_false_iff]
  intro hh
  simp only [Bool.and_eq_true, beq_iff_eq] at hh
  apply h
  apply cRun_inj
  simp only [cRun]
  rw [hh.1, hh.2]


theorem nebPhrase (x y : Int × UInt8) (h : x ≠ y) : (x.1 == y.1 && ((x.2).toNat : Int) == ((y.2).toNat : Int)) = false := by
  rw [Bool.eq_false_iff]
  intro hh
  simp only [Bool.and_eq_true, beq_iff_eq] at hh
  apply h
  apply cPhrase_inj
  simp only [cPhrase]
  rw [hh.1, hh.2]


theorem nebEdit (x y : Int × Int × ByteArray) (h : x ≠ y) : (x.1 == y.1 && x.2.1 == y.2.1 && (x.2.2).toList == (y.2.2).toList) = false := by
  rw [Bool.eq_false_iff]
  intro hh
  simp only [Bool.and_eq_true, beq_iff_eq, ByteArray.toList_eq] at hh
  apply h
  apply cEdit_inj
  simp only [cEdit]
  rw [hh.1.1, hh.1.2, str_ext hh.2]


theorem nebOp (x y : Int × Int × UInt8) (h : x ≠ y) : (x.1 == y.1 && x.2.1 == y.2.1 && ((x.2.2).toNat : Int) == ((y.2.2).toNat : Int)) = false := by
  rw [Bool.eq_false_iff]
  intro hh
  simp only [Bool.and_eq_true, beq_iff_eq] at hh
  apply h
  apply cOp_inj
  simp only [cOp]
  rw [hh.1.1, hh.1.2, hh.2]


theorem nebHit (x y : Int × Int) (h : x ≠ y) : (x.1 == y.1 && x.2 == y.2) = false := by
  rw [Bool.eq_false_iff]
  intro hh
  simp only [Bool.and_eq_true, beq_iff_eq] at hh
  apply h
  apply cHit_inj
  simp only [cHit]
  rw [hh.1, hh.2]




set_option maxHeartbeats 400000 in
theorem equalByte_any (A A' : Option Addr) (n m c c' B B' : Nat) (l l' : List (UInt8)) (w : World) (hn : n ≤ 140737488355328) (hm : m ≤ 140737488355328)
    (hl : l.length = n) (hl' : l'.length = m) (h : Reads w B A n 1 (l.flatMap cByte)) (h' : Reads w B' A' m 1 (l'.flatMap cByte)) :
    Calls Try.prog 8 #[.slice A n c, .slice A' m c'] w fun e w' => e = .returned (.bool (decide (l = l'))) ∧ Below w.heap.size w w' := by
  by_cases hnm : n = m
  · subst hnm
    have q1 : ((n : Int) != (n : Int)) = false := by simp
    have Hl := Lib.hid hl
    have Hl' := Lib.hid hl'
    clear hl hl'
    go_enter Try.func8, Try.ntmps8
    go_wp2
    go_loopw [5, 13] (fun _ i wr => ∃ k : Nat, k ≤ n ∧ i = .int .i64 k ∧ l.take k = l'.take k ∧ Below w.heap.size w wr ∧ Reads wr B A n 1 (l.flatMap cByte) ∧ Reads wr B' A' n 1 (l'.flatMap cByte)) (fun _ i _ => n - (intOf i).toNat)
    case atStart => exact ⟨0, Nat.zero_le _, rfl, by simp, Below.refl _ _, h, h'⟩
    case round =>
      clear h h'
      obtain ⟨k, hk, rfl, ht, hb, h, h'⟩ := hrel
      have Ht := Lib.hid ht
      clear ht
      by_cases hlt : k < n
      · obtain ⟨b, o, rfl, hbB, hc⟩ := h.2 (by omega)
        obtain ⟨b', o', rfl, hbB', hc'⟩ := h'.2 (by omega)
        have c0 := hc (k * 1 + 0) (by rw [flat_length cByte 1 cByte_len, Hl.out]; omega)
        rw [flat_getD cByte 1 cByte_len 0 l k _ (by rw [Hl.out]; omega) (by omega)] at c0
        have d0 := hc' (k * 1 + 0) (by rw [flat_length cByte 1 cByte_len, Hl'.out]; omega)
        rw [flat_getD cByte 1 cByte_len 0 l' k _ (by rw [Hl'.out]; omega) (by omega)] at d0
        simp only [cByte, List.getD_cons_zero, Nat.add_zero, Nat.mul_one] at c0 d0
        clear hc hc'
        have htk := take_succ_getD l k 0 (by rw [Hl.out]; omega)
        have htk' := take_succ_getD l' k 0 (by rw [Hl'.out]; omega)
        have hcut := fun h => decide_cut (k := k) 0 Hl.out Hl'.out hlt h
        have HTK := Lib.hid htk
        have HTK' := Lib.hid htk'
        have HC := Lib.hid hcut
        clear htk htk' hcut
        generalize l.getD k 0 = x at *
        generalize l'.getD k 0 = y at *
        by_cases hxy : x = y
        · subst hxy
          have hnq : ((x.toNat : Int) != (x.toNat : Int)) = false := by simp
          clear HC
          go_wp2
          go_quiet (fail)
          go_wp2
          go_roundw
          case rel => exact ⟨k + 1, by omega, by go_num, by rw [HTK.out, HTK'.out, Ht.out], below_drewN hb _, h.drewN _, h'.drewN _⟩
          case measure => simp [intOf]; omega
        · have hd := HC.out hxy
          have hnq : ((x.toNat : Int) != (y.toNat : Int)) = true := by rw [bne_iff_ne]; intro h; exact hxy (UInt8.toNat_inj.1 (by omega))
          have Hd := Lib.hid hd
          clear hd HC hxy
          go_wp2
          go_quiet (fail)
          go_wp2
          go_ret
          exact ⟨by rw [Hd.out]; rfl, below_drewN hb _⟩
      · obtain rfl : k = n := by omega
        have hd := decide_all Hl.out Hl'.out Ht.out
        have Hd := Lib.hid hd
        clear hd
        go_wp2
        go_ret
        exact ⟨by rw [Hd.out]; rfl, hb⟩
  · have q1 : ((n : Int) != (m : Int)) = true := by rw [bne_iff_ne]; omega
    have hd : decide (l = l') = false := by rw [decide_eq_false_iff_not]; intro e; apply hnm; rw [← hl, ← hl', e]
    have Hd := Lib.hid hd
    clear hd hl hl'
    go_enter Try.func8, Try.ntmps8
    go_wp2
    go_ret
    exact ⟨by rw [Hd.out]; rfl, Below.refl _ _⟩


end Go.Proofs.Ytpnpalbdlhlnkaa
