/- ScriptCut's walk: a string that is cut off within an edit is rejected. -/
import Derived.Test.YtbcendaiakeabaaDoorScriptOne
import Derived.Test.YtbcendaiakeabaaDoorEqual
import Derived.Test.YtbcendaiakeabaaDoorKeep
namespace Go.Proofs.YtbcendaiakeabaaDoor
open Go.RowKit
set_option linter.unusedVariables false

set_option maxRecDepth 100000 in
set_option maxHeartbeats 4000000 in
theorem scriptCut_walk (A : Option Addr) (na ca : Nat) (a : List Ed) (k0 : Int) {w : World} (ha0 : EditsIn w A na ca a) (hk0 : (Lit.int .i64 k0).wf = true) (ht : Tab w) :
    Calls Tryd.prog 4 #[.slice A na ca, .int .i64 k0] w fun e w' => e = .returned (.bool true) ∧ Below w.heap.size w w' := by
  have ha := edsAt_of ha0
  have hcap := ha0.2.2.2.2.1
  have hcm := ha0.2.2.2.2.2.1
  have hnil := ha0.2.2.2.2.2.2
  clear ha0
  go_enter Tryd.func4, Tryd.ntmps4
  go_wp2_with fail
  refine (scripts_any _ ht).mono ?_
  rintro e w1 ⟨rfl, hb1⟩
  go_wp2_with fail
  refine (write_one _ (ht.after hb1) (ha.after hb1)).mono ?_
  rintro e w2 ⟨ta, Ea, rfl, hwa, hb2⟩
  have hb2 := chain hb2 hb1
  rcases hwa with ⟨rfl, wa, hta⟩ | ⟨hEa, nwa, rfl⟩
  case inr =>
    have q1 : (Ea != 0) = true := by simpa using hEa
    go_wp2
    go_ret
    exact ⟨by simp, hb2⟩
  have hsa : ta.size ≤ 20000 := by show ta.data.toList.length ≤ _; rw [hta]; exact writes_len wa
  obtain ⟨k, hk, hkl⟩ : ∃ k : Nat, k0 % ((ta.size : Int) + 1) = k ∧ k ≤ ta.size := by
    have h1 := Int.emod_nonneg k0 (show ((ta.size : Int) + 1) ≠ 0 by omega)
    have h2 := Int.emod_lt_of_pos k0 (show 0 < ((ta.size : Int) + 1) by omega)
    exact ⟨(k0 % ((ta.size : Int) + 1)).toNat, by omega, by omega⟩
  have hw1 : ∀ w, Calls Tryd.prog 16 #[.int .i64 k0, .int .i64 ((ta.size : Int) + 1)] w fun e w' => e = .returned (.int .i64 (k : Int)) ∧ w = w' := fun w => by
    have := within_any k0 ((ta.size : Int) + 1) (by omega) (by omega) w
    rwa [hk] at this
  have Hw1 := Lib.hid hw1
  have hkl' : (k : Int) ≤ ta.size := by omega
  have hx : (ta.extract 0 k).size ≤ 20000 := by simp; omega
  have hxl : (ta.extract 0 k).data.toList = (writeL a).take k := by rw [Lib.extract_data, List.drop_zero, Nat.sub_zero, hta]
  have Hxl := Lib.hid hxl
  clear hw1 hk hxl hta hb1
  go_wp2_with fail
  refine (Hw1.out _).mono ?_
  rintro e w3 ⟨rfl, rfl⟩
  go_wp2_with fail
  refine (read_one (ta.extract 0 k) (by omega) _).mono ?_
  rintro e w4 ⟨A4, c4, l, El, rfl, hrl, hl4, hb4⟩
  have hb4' := chain hb4 hb2
  rcases hrl with ⟨rfl, hrl⟩ | ⟨rfl, _, rfl⟩
  case inr =>
    go_wp2
    go_ret
    exact ⟨by simp, hb4'⟩
  go_wp2_with fail
  refine (write_one _ (ht.after hb4') hl4).mono ?_
  rintro e w5 ⟨tl, E5, rfl, h5, hb5⟩
  have hb5' := chain hb5 hb4'
  rcases h5 with ⟨rfl, _, htl⟩ | ⟨_, hno, _⟩
  case inr => exact absurd ⟨hrl.2.1, hrl.2.2⟩ hno
  obtain ⟨m, hm, _⟩ := write_cancel (a := l) (l := a) (s := (writeL a).drop k) hrl.2.2 wa.2 (by rw [← hrl.1, Hxl.out, List.take_append_drop])
  have etl : tl = ta.extract 0 k := ba_extS (htl.trans hrl.1.symm)
  subst etl
  have q0 : ((ta.extract 0 k).toList == (ta.extract 0 k).toList) = true := by simp
  have ha5 := ha.after hb5'
  have hl5 := hl4.after hb5
  obtain ⟨n, hn⟩ : ∃ n, n = l.length := ⟨_, rfl⟩
  have hna : n ≤ na := by rw [hn, ← ha.len, hm, List.length_append]; omega
  have hn20 : n ≤ 20 := by rw [hn]; exact hrl.2.1
  have hfr := ha5.at_.front cEdit_len ha5.len hna
  have hat : a.take n = l := by rw [hm, hn, List.take_left']; rfl
  rw [hat] at hfr
  rw [← hn] at hl5 ⊢
  have eq1 := fun c' => equalEdit_any A4 A n n c4 c' _ _ l l w5 (by omega) (by omega) hn.symm hn.symm hl5.at_ hfr
  rw [decide_eq_true rfl] at eq1
  have Eq1 := Lib.hid eq1
  have q1 : decide ((n : Int) ≤ (na : Int)) = true := decide_eq_true (by omega)
  have q1' : decide (n ≤ na) = true := decide_eq_true hna
  have hsl : ∀ w', (Instr.slice 22 (.slice A na ca) none (some (.int .i64 (n : Int))) none).run Tryd.prog w' = .ok (.slice A n ca) w' := fun w' => by
    have hz : (sizeOf (Tryd.prog.elem 22)).run Tryd.prog w' = .ok 3 w' := by
      rw [show Tryd.prog.elem 22 = 37 from by kernel_rfl]
      exact Tryd.sizeOf37 w'
    have := run_slice_h (P := Tryd.prog) w' 22 A na ca (by kernel_rfl) .i64 n (by omega) (by unfold maxLen at hcm; omega)
    rw [this, hz]
    show Result.ok (sliced A 0 n ca 3) w' = _
    rw [sliced, Nat.zero_mul, Nat.sub_zero]
    by_cases h0 : ca = 0
    · subst h0
      have : n = 0 := by omega
      subst this
      simp
    · cases A with
      | none => exact absurd (hnil rfl) h0
      | some A =>
        rw [if_neg (by omega)]
        show Result.ok (Value.slice (some (Addr.add A 0)) n ca) w' = _
        congr 2
  clear hn hm hrl htl hfr hat eq1 hl4 ha5 hl5 hb4 hb5 hb4' hb2 hx
  go_wp2_with fail
  refine (Eq1.out _).mono ?_
  rintro e w6 ⟨rfl, hb6⟩
  go_wp2
  go_ret
  exact ⟨rfl, chain hb6 hb5'⟩
end Go.Proofs.YtbcendaiakeabaaDoor
