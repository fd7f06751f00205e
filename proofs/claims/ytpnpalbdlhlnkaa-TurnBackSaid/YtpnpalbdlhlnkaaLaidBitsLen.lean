/- BitsLen: contracts of the library laid at this program: the tables of numbers and the facts that they ask. -/
import Derived.Shelf.Small.Bits
import Derived.Test.YtpnpalbdlhlnkaaProg
namespace Go.Proofs.Ytpnpalbdlhlnkaa
set_option linter.unusedVariables false

def laysBits_ren : Go.Shelf.Ren := ⟨fun | 125 => 15 | 128 => 28 | 129 => 29 | n => n, fun | 46 => 40 | 3 => 3 | 51 => 52 | 53 => 54 | 4 => 4 | 5 => 5 | 9 => 9 | 20 => 20 | n => n, fun | n => n⟩
theorem laysBits : Go.Proofs.Lays.n125 Try.prog laysBits_ren := {
  mixed := by kernel_rfl,
  f125 := Try.func15.trans (congrArg some (by kernel_rfl)),
  f128 := Try.func28.trans (congrArg some (by kernel_rfl)),
  f129 := Try.func29.trans (congrArg some (by kernel_rfl)),
  t3 := Try.underlying3,
  a3 := Try.isAgg3,
  z3 := Try.sizeOf3,
  v3 := Try.zeroValue3,
  t4 := Try.underlying4,
  a4 := Try.isAgg4,
  z4 := Try.sizeOf4,
  v4 := Try.zeroValue4,
  t5 := Try.underlying5,
  a5 := Try.isAgg5,
  z5 := Try.sizeOf5,
  v5 := Try.zeroValue5,
  t9 := Try.underlying9,
  a9 := Try.isAgg9,
  z9 := Try.sizeOf9,
  v9 := Try.zeroValue9,
  t46 := Try.underlying40,
  a46 := Try.isAgg40,
  z46 := Try.sizeOf40,
  v46 := Try.zeroValue40,
  t51 := Try.underlying52,
  a51 := Try.isAgg52,
  z51 := Try.sizeOf52,
  v51 := Try.zeroValue52,
  t53 := Try.underlying54,
  a53 := Try.isAgg54,
  z53 := Try.sizeOf54,
  v53 := Try.zeroValue54 }

end Go.Proofs.Ytpnpalbdlhlnkaa
