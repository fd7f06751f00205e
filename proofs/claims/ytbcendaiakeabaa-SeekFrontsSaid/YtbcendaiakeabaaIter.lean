/- A range over a string, in whatever world. -/
import Derived.Test.YtbcendaiakeabaaStruct
import Derived.Laws.RangeAny
import Derived.Laws.RangeString
namespace Go.Proofs.Ytbcendaiakeabaa
open Go.RowKit
set_option linter.unusedVariables false

def IterAt (w : World) (g : Nat) (s : ByteArray) (p : Nat) : Prop := w.heap[g]? = some (.stringIter s p)
def iterTo (w : World) (g : Nat) (s : ByteArray) (p : Nat) : World := { w with heap := w.heap.setIfInBounds g (.stringIter s p) }
section
variable {P : Program} {w : World} {g : Nat} {s : ByteArray} {p : Nat}
theorem IterAt.lt (h : IterAt w g s p) : g < w.heap.size := (Array.getElem?_eq_some_iff.1 h).1
theorem IterAt.iter (w : World) (s : ByteArray) (p : Nat) : IterAt (w.iter s p) w.heap.size s p := World.iter_heap w s p
theorem IterAt.pos (h : IterAt w g s p) : w.iterPos g = p := by unfold World.iterPos; rw [h]
theorem IterAt.to (h : IterAt w g s p) (q : Nat) : IterAt (iterTo w g s q) g s q := by
  show (w.heap.setIfInBounds g _)[g]? = _
  rw [Array.getElem?_setIfInBounds, if_pos rfl, if_pos h.lt]
theorem IterAt.drewN (h : IterAt w g s p) (n : Nat) : IterAt (w.drewN n) g s p := h
theorem iterTo_below {B : Nat} {a : World} (hb : Below B a w) (hg : B ≤ g) (q : Nat) : Below B a (iterTo w g s q) :=
  hb.trans ⟨rfl, rfl, rfl, by show _ ≤ (w.heap.setIfInBounds g _).size; rw [Array.size_setIfInBounds]; exact Nat.le_refl _, fun k hk => by
    show (w.heap.setIfInBounds g _)[k]? = _
    rw [Array.getElem?_setIfInBounds, if_neg (by omega)]⟩
theorem next_some (h : IterAt w g s p) (hp : p < s.size) (ty : TypeId) :
    (Instr.next (.pointer (some ⟨g, 0, none⟩)) true ty).run P w = .ok (.tuple #[.bool true, .int .i64 p, .int .i32 (Utf8.decode s p).1]) (iterTo w g s (p + (Utf8.decode s p).2)) := by
  have hh : w.heap[g]? = some (.stringIter s p) := h
  simp only [Instr.next, getObj, setObj, Sem.run_bind, Sem.run, hh, Result.andThen, hp, if_true]
  simp [goInt, iterTo]
theorem next_none (h : IterAt w g s p) (hp : ¬ p < s.size) (ty : TypeId) :
    (Instr.next (.pointer (some ⟨g, 0, none⟩)) true ty).run P w = .ok (.tuple #[.bool false]) w := by
  have hh : w.heap[g]? = some (.stringIter s p) := h
  simp only [Instr.next, getObj, setObj, Sem.run_bind, Sem.run, hh, Result.andThen, hp, if_false]
  rfl
theorem iter_width (s : ByteArray) (pos : Nat) (h : pos < s.size) : 1 ≤ (Utf8.decode s pos).2 := by
  by_cases ha : (s[pos]'h).toNat < 128
  · rw [decode_ascii s pos h ha]
    exact Nat.le_refl _
  · exact (decode_high s pos h (by omega)).2
end
/-- A number of a list that lies there. -/
theorem ints_cell {w : World} {B N : Nat} {b o : Nat} {L : List Int} (h : Reads w B (some ⟨b, o, none⟩) N 1 (L.flatMap cInt)) (hN : L.length = N) (j : Nat) (hj : j < N) : w.cell? ⟨b, o + j, none⟩ = some (.int .i64 (L.getD j 0)) := by
  obtain ⟨b', o', hA, _, hc⟩ := h.2 (by omega)
  injection hA with hA
  injection hA with e1 e2
  subst e1 e2
  have c0 := hc (j * 1 + 0) (by rw [flat_length cInt 1 cInt_len, hN]; omega)
  rw [flat_getD cInt 1 cInt_len 0 L j _ (by rw [hN]; exact hj) (by omega)] at c0
  simpa only [cInt, List.getD_cons_zero, Nat.mul_one, Nat.add_zero] using c0
end Go.Proofs.Ytbcendaiakeabaa
