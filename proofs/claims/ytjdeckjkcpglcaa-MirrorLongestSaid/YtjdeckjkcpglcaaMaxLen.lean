/- The library's variable MaxLen: that its cell holds some number, and stays. -/
import Derived.Test.YtjdeckjkcpglcaaLib
import Derived.Test.YtjdeckjkcpglcaaProg
import Derived.Shelf.Vars
import Derived.Below
namespace Go.Proofs.Ytjdeckjkcpglcaa
open Go.RowKit
set_option linter.unusedVariables false

def MaxL (w : World) : Prop := ∃ m, w.cell? ⟨0, 0, none⟩ = some (.int .i64 m)
theorem maxL_of {w : World} (h : w.ShapedOpen Try.prog) : MaxL w :=
  Go.Proofs.cell_of_shapedOpen_int (zero := #[.int .i64 0]) (t := 3) h (of_decide_eq_true (by kernel_rfl)) (by kernel_rfl) rfl (by kernel_rfl) (by kernel_rfl) Try.underlying3
theorem MaxL.lt {w : World} (h : MaxL w) : 0 < w.heap.size := by
  obtain ⟨m, hm⟩ := h
  rcases Nat.lt_or_ge 0 w.heap.size with h' | h'
  · exact h'
  · unfold World.cell? at hm
    rw [Array.getElem?_eq_none h'] at hm; cases hm
theorem MaxL.below {B : Nat} {w w' : World} (h : MaxL w) (hb : Below B w w') (hB : w.heap.size ≤ B) : MaxL w' := by
  have hl := h.lt
  obtain ⟨m, hm⟩ := h
  exact ⟨m, by rw [hb.cell (by show 0 < B; omega)]; exact hm⟩
theorem MaxL.after {w w' : World} (h : MaxL w) (hb : Below w.heap.size w w') : MaxL w' := h.below hb (Nat.le_refl _)
end Go.Proofs.Ytjdeckjkcpglcaa
