/- Plain: what it means that a text is found in another. -/
import Derived.Lib.IndexMore
import Derived.Lib.LastIndexLaws
namespace Go.Proofs.Ytjdeckjkcpglcaa
set_option linter.unusedVariables false

theorem occ_prefix {s t : List UInt8} {i : Nat} : Lib.occAt s t i = true ↔ t <+: s.drop i := by unfold Lib.occAt; exact List.isPrefixOf_iff_prefix
theorem contains_of {s t : List UInt8} {i : Nat} (hi : i ≤ s.length) (h : t <+: s.drop i) : Lib.contains s t = true := by
  unfold Lib.contains
  rcases Lib.index_spec s t with ⟨_, hn⟩ | ⟨a, e, ha, hoa, hno⟩
  · have := hn i hi
    rw [occ_prefix.2 h] at this; cases this
  · rw [e]; simp
end Go.Proofs.Ytjdeckjkcpglcaa
