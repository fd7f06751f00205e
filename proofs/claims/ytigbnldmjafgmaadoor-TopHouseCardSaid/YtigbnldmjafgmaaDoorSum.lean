/- Plain: the checksum as a function on lists of bytes, and the bit operations as the walk spells them. -/
import Derived.WalkKit
namespace Go.Proofs.YtigbnldmjafgmaaDoor
open Go.RowKit
set_option linter.unusedVariables false

def st (x : Nat) : Nat := (x / 2) ^^^ (x % 2 * 2197175160)
def stn : Nat → Nat → Nat
  | 0, x => x
  | k + 1, x => st (stn k x)
def upd (x : Nat) (c : UInt8) : Nat := stn 8 (x ^^^ c.toNat)
def sumOf (l : List UInt8) : Nat := 4294967295 ^^^ l.foldl upd 4294967295

theorem st_lt (x : Nat) (h : x < 4294967296) : st x < 4294967296 := by
  unfold st
  refine Nat.xor_lt_two_pow (n := 32) (by omega) ?_
  rcases Nat.mod_two_eq_zero_or_one x with e | e <;> rw [e] <;> decide
theorem stn_lt : ∀ (k x : Nat), x < 4294967296 → stn k x < 4294967296
  | 0, _, h => h
  | k + 1, x, h => st_lt _ (stn_lt k x h)
theorem byte_lt (c : UInt8) : c.toNat < 256 := c.toNat_lt
theorem upd_lt (x : Nat) (c : UInt8) (h : x < 4294967296) : upd x c < 4294967296 :=
  stn_lt _ _ (Nat.xor_lt_two_pow (n := 32) h (by have := byte_lt c; omega))
theorem fold_lt : ∀ (l : List UInt8) (x : Nat), x < 4294967296 → l.foldl upd x < 4294967296
  | [], _, h => h
  | c :: l, x, h => fold_lt l _ (upd_lt x c h)
theorem sumOf_lt (l : List UInt8) : sumOf l < 4294967296 :=
  Nat.xor_lt_two_pow (n := 32) (by decide) (fold_lt l _ (by decide))

theorem xor_byte (X c : Nat) (h : X < 4294967296) (hc : c < 256) : bits .xor .u32 (X : Int) ((c : Int) % 4294967296) = ((X ^^^ c : Nat) : Int) := by
  rw [show ((c : Int) % 4294967296) = (c : Int) from by omega]
  exact u32_xor_nat X c h (by omega)
theorem step_bits (x : Nat) (h : x < 4294967296) : bits .xor .u32 ((x : Int) / 2) (bits .and .u32 (x : Int) 1 * 2197175160 % 4294967296) = ((st x : Nat) : Int) := by
  have h1 : bits .and .u32 (x : Int) 1 = ((x % 2 : Nat) : Int) := by
    have := u32_and_nat x 1 h (by decide)
    rw [nat_mask1] at this
    exact this
  rw [h1]
  have e1 : ((x : Int) / 2) = ((x / 2 : Nat) : Int) := by omega
  have e2 : (((x % 2 : Nat) : Int) * 2197175160 % 4294967296) = ((x % 2 * 2197175160 : Nat) : Int) := by omega
  rw [e1, e2]
  exact u32_xor_nat _ _ (by omega) (by omega)
theorem xor_max (X : Nat) (h : X < 4294967296) : bits .xor .u32 IntKind.u32.max (X : Int) = ((4294967295 ^^^ X : Nat) : Int) := by
  have : IntKind.u32.max = ((4294967295 : Nat) : Int) := by decide
  rw [this]
  exact u32_xor_nat _ _ (by decide) h

/-- A 32-bit number as four bytes, the low one first. -/
def bytes4 (x : Nat) : List UInt8 := [UInt8.ofNat x, UInt8.ofNat (x / 256), UInt8.ofNat (x / 65536), UInt8.ofNat (x / 16777216)]

/-- What Right answers. -/
def rightOf (l : List UInt8) : Bool := decide (4 ≤ l.length) && (bytes4 (sumOf (l.take (l.length - 4))) == l.drop (l.length - 4))

end Go.Proofs.YtigbnldmjafgmaaDoor
