/- ShiftAlone's walk: a sequence is unchanged by an empty one, and prefixes are transformed as within the whole. -/
import Derived.Test.YtpeplkjidljpmaaShiftRows
import Derived.Test.YtpeplkjidljpmaaEqual
import Derived.Test.YtpeplkjidljpmaaSlice
import Derived.Test.YtpeplkjidljpmaaKeep
namespace Go.Proofs.Ytpeplkjidljpmaa
open Go.RowKit
set_option linter.unusedVariables false

theorem sizeOpA : ∀ w, (sizeOf (Try.prog.elem 34)).run Try.prog w = .ok 3 w := fun w => by
  simp [sizeOf, typeInfo, Sem.run_bind, show Try.prog.elem 34 = 23 from by kernel_rfl]
  kernel_rfl

theorem all_nil {n : Int} {a b : List Op3} (h : AllOk n a b) : AllOk n a [] := by
  by_cases h0 : 0 < a.length ∨ 0 < b.length
  · obtain ⟨n0, n1, n2, n3, _⟩ := h.range h0
    have sa := sumO_le a
    have sb := sumO_le b
    have la := h.la
    have lb := h.lb
    refine ⟨la, Nat.zero_le _, h.ra, rfl, ?_, ?_⟩
    · rw [wrap_small (by simp; omega) (by simp; omega)]; simp; omega
    · rw [wrap_small (by simp [sumO]; omega) (by simp [sumO]; omega)]; simp [sumO]; omega
  · have ha : a = [] := List.eq_nil_of_length_eq_zero (by omega)
    have hb : b = [] := List.eq_nil_of_length_eq_zero (by omega)
    subst ha hb
    exact h
theorem all_take {n : Int} {a b : List Op3} (h : AllOk n a b) (k : Nat) (hk : k ≤ a.length) : AllOk n (a.take k) b := by
  by_cases h0 : 0 < a.length ∨ 0 < b.length
  · obtain ⟨n0, n1, n2, n3, _⟩ := h.range h0
    have e := List.take_append_drop k a
    have hl : (a.take k).length = k := by rw [List.length_take]; omega
    have sa := sumO_le (a.take k)
    have sd := sumO_le (a.drop k)
    have sb := sumO_le b
    have la := h.la
    have lb := h.lb
    have hs : sumO a = sumO (a.take k) + sumO (a.drop k) := by rw [← sumO_append, e]
    have hld : (a.drop k).length = a.length - k := by rw [List.length_drop]
    have hra := h.ra
    rw [← e] at hra
    refine ⟨by omega, lb, rowE_front _ _ _ hra, h.rb, ?_, ?_⟩
    · rw [wrap_small (by omega) (by omega)]; omega
    · rw [wrap_small (by omega) (by omega)]; omega
  · have ha : a = [] := List.eq_nil_of_length_eq_zero (by omega)
    have hb : b = [] := List.eq_nil_of_length_eq_zero (by omega)
    subst ha hb
    rw [List.take_nil]
    exact h

set_option maxRecDepth 100000 in
set_option maxHeartbeats 2000000 in
theorem shiftAlone_core (n : Int) (A : Option Addr) (la ca : Nat) (a : List Op3) (A' : Option Addr) (lb cb : Nat) (b : List Op3) (k : Int) (hn : -9223372036854775808 ≤ n ∧ n ≤ 9223372036854775807) (w : World) (ha : OpsIn w A la ca a) (hb : OpsIn w A' lb cb b) (hkk : -9223372036854775808 ≤ k ∧ k ≤ 9223372036854775807) :
    Calls Try.prog 5 #[.int .i64 n, .slice A la ca, .slice A' lb cb, .int .i64 k] w fun e w' => e = .returned (.bool true) ∧ Below w.heap.size w w' := by
  obtain ⟨hla, hra, hka, _, hca, _, _⟩ := ha
  obtain ⟨hlb, hrb, hkb, _, _, _, _⟩ := hb
  have hka : la ≤ 140737488355328 := by omega
  have hkb : lb ≤ 140737488355328 := by omega
  by_cases hE : allE n a b = 0
  · have hok := allE_ok hE
    have hE2 : allE n a [] = 0 := (all_nil hok).mk'
    obtain ⟨m, hm, hmk⟩ : ∃ m : Nat, k % ((la : Int) + 1) = m ∧ m ≤ la := ⟨(k % ((la : Int) + 1)).toNat, by have := Int.emod_nonneg k (show ((la : Int) + 1) ≠ 0 by omega); omega, by have := Int.emod_lt_of_pos k (show 0 < ((la : Int) + 1) by omega); omega⟩
    have hE3 : allE n (a.take m) b = 0 := (all_take hok m (by omega)).mk'
    have Hall := Lib.hid (fun w B0 h h' hB0 => all_yes n hn A A' la ca lb cb B0 a b hla hlb hka hkb hE w h h' hB0)
    have Hall2 := Lib.hid (fun w B0 h h' hB0 => all_yes n hn A none la ca 0 0 B0 a [] hla rfl hka (by omega) hE2 w h h' hB0)
    have Hall3 := Lib.hid (fun w A B0 h h' hB0 => all_yes n hn A A' m ca lb cb B0 (a.take m) b (by rw [List.length_take]; omega) hlb (by omega) hkb hE3 w h h' hB0)
    rw [inn_nil_all] at Hall2
    rw [allO_take] at Hall3
    have l1 : (allO a b).1.length = la := (allO_len a b).1.trans hla
    have E1 := Lib.hid (fun w A1 c1 B B' h h' => equalOp_any A1 A la la c1 ca B B' a a w hka hka hla hla h h')
    have E2 := Lib.hid (fun w A1 A2 c1 c2 B B' h h' => equalOp_any A1 A2 m m c1 c2 B B' ((allO a b).1.take m) ((allO a b).1.take m) w (by omega) (by omega) (by rw [List.length_take, l1]; omega) (by rw [List.length_take, l1]; omega) h h')
    rw [decide_eq_true rfl] at E1 E2
    have hw := fun w => within_any k ((la : Int) + 1) (by omega) (by omega) w
    rw [hm] at hw
    have Hw := Lib.hid hw
    have Hl1 := Lib.hid l1
    have Hla := Lib.hid hla
    clear hE hE2 hE3 hok hw hm hla hlb l1
    generalize (allO a b).1 = p at *
    generalize (allO a b).2 = q at *
    generalize (allO (a.take m) b).2 = r at *
    go_enter Try.func5, Try.ntmps5
    go_wp2_with fail
    refine (shifts_any _).mono ?_
    rintro e w1 ⟨rfl, hb1⟩
    go_wp2_with fail
    refine (Hall.out _ w.heap.size (hra.below hb1) (hrb.below hb1) hb1.size).mono ?_
    rintro e w2 ⟨hb2, A1, c1, A2, c2, rfl, hr1, _, hc1, _⟩
    have hw2 := chain hb2 hb1
    clear hb1 hb2
    go_wp2_with fail
    refine (Hall2.out _ w.heap.size (hra.below hw2) Reads.nil hw2.size).mono ?_
    rintro e w3 ⟨hb3, A3, c3, A4, c4, rfl, hr3, _, _, _⟩
    have hw3 := chain hb3 hw2
    have hr1 := hr1.after hb3
    clear hb3 hw2
    go_wp2_with fail
    refine (Hw.out _).mono ?_
    rintro e w4 ⟨rfl, rfl⟩
    obtain ⟨A5, hs5, hr5⟩ := slice_front 34 (by kernel_rfl) sizeOpA cOp_len (hra.below hw3) Hla.out hmk hca
    obtain ⟨A6, hs6, hr6⟩ := slice_front 34 (by kernel_rfl) sizeOpA cOp_len hr1 Hl1.out hmk hc1
    go_wp2_with fail
    refine (Hall3.out _ A5 w.heap.size hr5 (hrb.below hw3) hw3.size).mono ?_
    rintro e w5 ⟨hb5, A7, c7, A8, c8, rfl, hr7, _, _, _⟩
    have hw5 := chain hb5 hw3
    have hr3 := hr3.after hb5
    have hr6 := hr6.after hb5
    clear hb5 hw3 hr1 hr5
    go_wp2_with fail
    refine (E1.out _ A3 c3 _ _ hr3 ((hra.below hw5).more hw5.size)).mono ?_
    rintro e w6 ⟨rfl, hb6⟩
    have hw6 := chain hb6 hw5
    have hr7 := hr7.after hb6
    have hr6 := hr6.after hb6
    clear hb6 hw5 hr3
    go_wp2_with fail
    refine (E2.out _ A7 A6 c7 c1 _ _ hr7 hr6).mono ?_
    rintro e w7 ⟨rfl, hb7⟩
    have hw7 := chain hb7 hw6
    clear hb7 hw6 hr6 hr7
    go_wp2
    go_ret
    exact ⟨by simp, hw7⟩
  · have hne : (allE n a b != 0) = true := by rw [bne_iff_ne]; exact hE
    have Hall := Lib.hid (fun w B0 h h' hB0 => all_no n hn A A' la ca lb cb B0 a b hla hlb hka hkb _ rfl hE w h h' hB0)
    have Hall2 := Lib.hid (fun w B0 h h' hB0 => all_any n hn A none la ca 0 0 B0 a [] hla rfl hka (by omega) w h h' hB0)
    clear hla hlb
    generalize allE n a b = E at *
    clear hE
    go_enter Try.func5, Try.ntmps5
    go_wp2_with fail
    refine (shifts_any _).mono ?_
    rintro e w1 ⟨rfl, hb1⟩
    go_wp2_with fail
    refine (Hall.out _ w.heap.size (hra.below hb1) (hrb.below hb1) hb1.size).mono ?_
    rintro e w2 ⟨rfl, hb2⟩
    have hw2 := chain hb2 hb1
    clear hb1 hb2
    go_wp2_with fail
    refine (Hall2.out _ w.heap.size (hra.below hw2) Reads.nil hw2.size).mono ?_
    rintro e w3 ⟨hb3, h3⟩
    have hw3 := chain hb3 hw2
    have h3 : ∃ X Y Z, e = .returned (.tuple #[X, Y, .int .i64 Z]) := by
      rcases h3 with ⟨_, h3⟩ | ⟨_, A, c, A', c', h3, _⟩
      · exact ⟨_, _, _, h3⟩
      · exact ⟨_, _, _, h3⟩
    obtain ⟨X, Y, Z, rfl⟩ := h3
    clear hb3 hw2
    go_wp2
    go_ret
    exact ⟨by simp, hw3⟩

theorem wf_i64 {n : Int} (h : (Lit.int .i64 n).wf = true) : -9223372036854775808 ≤ n ∧ n ≤ 9223372036854775807 := by
  have hb := bounds_i64 h
  omega
theorem shiftAlone_walk (n : Int) (A : Option Addr) (la ca : Nat) (a : List Op3) (A' : Option Addr) (lb cb : Nat) (b : List Op3) (k : Int) (hn : (Lit.int .i64 n).wf = true) (w : World) (ha : OpsIn w A la ca a) (hb : OpsIn w A' lb cb b) (hk : (Lit.int .i64 k).wf = true) :
    Calls Try.prog 5 #[.int .i64 n, .slice A la ca, .slice A' lb cb, .int .i64 k] w fun e w' => e = .returned (.bool true) ∧ Below w.heap.size w w' :=
  shiftAlone_core n A la ca a A' lb cb b k (wf_i64 hn) w ha hb (wf_i64 hk)

end Go.Proofs.Ytpeplkjidljpmaa
