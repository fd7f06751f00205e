/- strings.Join of a row with nothing between. -/
import Derived.Test.YtppbjomobbaeaaaLaidJoin
import Derived.Test.YtppbjomobbaeaaaStruct
import Derived.Test.YtppbjomobbaeaaaPlain
import Derived.Lib.Join
namespace Go.Proofs.Ytppbjomobbaeaaa
open Go.RowKit
set_option linter.unusedVariables false

theorem reads_cellsJ {w : World} {B n b o : Nat} {l : List ByteArray} (r : Reads w B (some ⟨b, o, none⟩) n 1 (l.flatMap cStr)) (hl : l.length = n) (hn : 0 < n) : b < B ∧ ∀ (j : Nat) x, l[j]? = some x → w.cell? ⟨b, o + j, none⟩ = some (.string x) := by
  obtain ⟨b', o', he, hbB, hc⟩ := r.2 hn
  cases he
  refine ⟨hbB, fun j x hx => ?_⟩
  have hj : j < l.length := by
    rcases Nat.lt_or_ge j l.length with h | h
    · exact h
    · exact absurd (hx.symm.trans (List.getElem?_eq_none h)) (by simp)
  have hx' : l.getD j ByteArray.empty = x := by rw [List.getD_eq_getElem?_getD, hx]; rfl
  have c0 := hc (j * 1 + 0) (by rw [flat_length cStr 1 cStr_len]; omega)
  rw [flat_getD cStr 1 cStr_len ByteArray.empty l j _ hj (by omega), hx'] at c0
  simpa only [cStr, List.getD_cons_zero, Nat.mul_one, Nat.add_zero] using c0
theorem join_flat (l : List ByteArray) : Lib.join (l.map (·.data.toList)) [] = (l.map (·.data.toList)).flatten := by
  cases l with
  | nil => rfl
  | cons p l =>
    rw [List.map_cons, Lib.join_cons, List.flatten_cons, Lib.joinTail]
    congr 1
    rw [List.map_map]
    rfl
theorem joinAll_any (A : Option Addr) (n c B : Nat) (l : List ByteArray) (hl : l.length = n) (hnc : n ≤ c) (hn : n ≤ 140737488355328) (ht : (l.map (·.data.toList)).flatten.length ≤ 140737488355328) (w : World) (r : Reads w B A n 1 (l.flatMap cStr)) (hB : B ≤ w.heap.size) :
    Calls Try.prog 26 #[.slice A n c, .string ⟨#[]⟩] w fun e w' => e = .returned (.string ⟨(l.map (·.data.toList)).flatten.toArray⟩) ∧ Below w.heap.size w w' := by
  rcases Nat.eq_zero_or_pos n with h0 | h0
  · subst h0
    obtain rfl : l = [] := List.eq_nil_of_length_eq_zero hl
    refine (join_none A c ⟨#[]⟩ w).mono ?_
    rintro e w2 ⟨rfl, rfl⟩
    exact ⟨rfl, Below.refl _ _⟩
  · obtain ⟨b, o, rfl, hbB, _⟩ := r.2 h0
    obtain ⟨_, hc⟩ := reads_cellsJ r hl h0
    have hj := join_any b o c l ⟨#[]⟩ w hc (by omega) (by omega) (by omega)
    rw [show (⟨#[]⟩ : ByteArray).data.toList = [] from rfl, join_flat, hl] at hj
    exact hj ht
end Go.Proofs.Ytppbjomobbaeaaa
