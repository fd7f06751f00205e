/- slices.SortFunc of no ints. -/
import Derived.Test.YtpnpalbdlhlnkaaLib
import Derived.Test.YtpnpalbdlhlnkaaLaidIntSort0
namespace Go.Proofs.Ytpnpalbdlhlnkaa
open Go.RowKit Go.Sort Go.Shelf Go.Lib
set_option linter.unusedVariables false
theorem intSort_none (p : Option Addr) (cap : Nat) (fv : Value) (w : World) : Calls Try.prog 10 #[.slice p 0 cap, fv] w fun e w' => e = .returned (.tuple #[]) ∧ w = w' := by
  have h := AnyF.slices_SortFunc_none layIntSort0 p cap fv w
  change Calls Try.prog 10 _ _ _ at h
  exact h.mono fun _ _ ⟨h1, h2⟩ => ⟨h1, h2.symm⟩
end Go.Proofs.Ytpnpalbdlhlnkaa
