/- strings.Index at any text. -/
import Derived.Test.YtkclcjgkicikfaaLaidIndex
import Derived.Test.YtkclcjgkicikfaaMaxLen
namespace Go.Proofs.Ytkclcjgkicikfaa
open Go.RowKit
set_option linter.unusedVariables false
theorem index_any (s t : ByteArray) (hs : s.size ≤ 4294967280) (w : World) (h : MaxL w) :
    Calls Try.prog 5 #[.string s, .string t] w fun e w' => e = .returned (.int .i64 (Lib.index s.data.toList t.data.toList)) ∧ w = w' := by
  obtain ⟨m, hm⟩ := h
  refine (Any.strings_Index { laysIx with } s t m w (by omega) hm).mono ?_
  rintro e w' ⟨rfl, rfl⟩
  exact ⟨rfl, rfl⟩
end Go.Proofs.Ytkclcjgkicikfaa
