/- The walk of code.bits. -/
import Derived.Test.YtlnobikecmgocaaDoorMakeP
import Derived.Test.YtlnobikecmgocaaDoorRows
import Derived.Test.YtlnobikecmgocaaDoorLib
import Derived.Test.YtlnobikecmgocaaDoorPlain
import Derived.IntWalk
namespace Go.Proofs.YtlnobikecmgocaaDoor
open Go.RowKit
set_option linter.unusedVariables false

theorem i64_and_one (a : Nat) (ha : a < 9223372036854775808) : bits .and .i64 (a : Int) 1 = ((a % 2 : Nat) : Int) := by
  have h1 : (BitVec.ofInt 64 (a : Int)).toNat = a := by
    rw [BitVec.ofInt_natCast, BitVec.toNat_ofNat]; exact Nat.mod_eq_of_lt (by omega)
  have h2 : (BitVec.ofInt 64 (1 : Int)).toNat = 1 := by decide
  show IntKind.i64.wrap ((BitVec.ofInt 64 (a : Int) &&& BitVec.ofInt 64 (1 : Int)).toNat : Int) = _
  rw [BitVec.toNat_and, h1, h2, Nat.and_one_is_mod, IntKind.wrap_i64]
  have : a % 2 < 2 := Nat.mod_lt _ (by decide)
  omega
theorem i64_bit (x k : Nat) (hx : x ≤ 4096) : bits .and .i64 ((x : Int) / 2 ^ k) 1 = ((x / 2 ^ k % 2 : Nat) : Int) := by
  have h1 : ((x : Int) / 2 ^ k) = ((x / 2 ^ k : Nat) : Int) := by simp
  have h2 : x / 2 ^ k ≤ x := Nat.div_le_self _ _
  rw [h1]
  exact i64_and_one _ (by omega)

set_option maxHeartbeats 1000000 in
theorem bits_any (x n : Nat) (hx : x ≤ 4096) (hn : n ≤ 12) (w : World) : Calls Tryd.prog 31 #[.int .i64 (x : Int), .int .i64 (n : Int)] w fun e w' => e = .returned (.string ⟨(bitsL x n).toArray⟩) ∧ w = w' := by
  obtain ⟨R, hR⟩ : ∃ R, R = bitsL x n := ⟨_, rfl⟩
  rw [← hR]
  have HR := Lib.hid hR
  clear hR
  go_enter Tryd.func31, Tryd.ntmps31
  go_wp2
  go_loopw [5, 6] (fun ov iv wr => ∃ (m : Nat) (o : ByteArray), m ≤ n ∧ iv = .int .i64 ((m : Int) - 1) ∧ ov = .string o ∧ o.size ≤ 12 - m ∧ Hid (o.data.toList ++ bitsL x m = R) ∧ wr = w) (fun _ iv _ => (intOf iv + 1).toNat)
  case atStart => exact ⟨n, ⟨#[]⟩, Nat.le_refl _, rfl, rfl, by show 0 ≤ _; omega, Lib.hid (by rw [HR.out]; rfl), rfl⟩
  case round =>
    obtain ⟨m, o, hm, rfl, rfl, hos, HO, rfl⟩ := hrel
    cases m with
    | zero =>
      have hfin : o = (⟨R.toArray⟩ : ByteArray) := str_ext (by rw [← HO.out]; simp [bitsL])
      have Hfin := Lib.hid hfin
      clear hfin
      go_wp2
      go_ret
      exact ⟨by rw [Hfin.out]; rfl, rfl⟩
    | succ m =>
      have hbit : x / 2 ^ m % 2 = 0 ∨ x / 2 ^ m % 2 = 1 := Nat.mod_two_eq_zero_or_one _
      have e0 : ((m + 1 : Nat) : Int) - 1 = (m : Int) := by omega
      rw [e0]
      clear e0
      have hnx : ∀ c : UInt8, UInt8.ofNat (48 + x / 2 ^ m % 2) = c → (o ++ (⟨#[c]⟩ : ByteArray)).data.toList ++ bitsL x m = R := fun c hc => by
        rw [← HO.out, bitsL, hc]
        simp [ByteArray.data_append]
      have Hnx := Lib.hid hnx
      have h48 : Utf8.encode 48 = ⟨#[48]⟩ := by decide +kernel
      have h49 : Utf8.encode 49 = ⟨#[49]⟩ := by decide +kernel
      have hib := i64_bit x m hx
      have hcat : ∀ (c : UInt8) w, (Op.stringOp .add o (⟨#[c]⟩ : ByteArray)).run Tryd.prog w = .ok (.string (o ++ ⟨#[c]⟩)) w := fun c w => run_string_add_sum w _ _ (by show o.size + 1 ≤ _; omega)
      clear hnx
      rcases hbit with hb | hb
      · rw [hb] at hib
        have hib2 : bits .and .i64 ((x : Int) / 2 ^ m) 1 = 0 := hib
        have hR2 := Hnx.out 48 (by rw [hb]; rfl)
        have HR2 := Lib.hid hR2
        clear hib hb hR2
        go_wp2
        go_roundw
        case rel => exact ⟨m, _, by omega, by first | rfl | go_num, rfl, by rw [ByteArray.size_append]; show o.size + 1 ≤ _; omega, HR2, trivial⟩
        case measure => simp [intOf]
      · rw [hb] at hib
        have hib2 : bits .and .i64 ((x : Int) / 2 ^ m) 1 = 1 := hib
        have hR2 := Hnx.out 49 (by rw [hb]; rfl)
        have HR2 := Lib.hid hR2
        clear hib hb hR2
        go_wp2
        go_roundw
        case rel => exact ⟨m, _, by omega, by first | rfl | go_num, rfl, by rw [ByteArray.size_append]; show o.size + 1 ≤ _; omega, HR2, trivial⟩
        case measure => simp [intOf]
end Go.Proofs.YtlnobikecmgocaaDoor
