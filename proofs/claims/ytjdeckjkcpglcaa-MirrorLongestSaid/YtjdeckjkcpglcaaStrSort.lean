/- slices.Sort and slices.Compact of strings that lie in a row of one's own. -/
import Derived.Test.YtjdeckjkcpglcaaLaidStrSort
import Derived.Test.YtjdeckjkcpglcaaLaidCompactStr
import Derived.Test.YtjdeckjkcpglcaaSortK
import Derived.Shelf.Sort.Plain
import Derived.Shelf.Slices.In.SortNone
namespace Go.Proofs.Ytjdeckjkcpglcaa
open Go.RowKit Go.Sort Go.Shelf Go.Lib
set_option linter.unusedVariables false

theorem putRow_map {α : Type} [Inhabited α] (enc : α → Value) (w : World) (g o : Nat) (d : Array α) : putRow enc w g o d = putRow id w g o (d.map enc) := by
  have e : putCells enc o d = putCells id o (d.map enc) := funext fun cs => by
    refine Array.ext (by simp [putCells]) fun j h1 h2 => ?_
    simp only [putCells, Array.getElem_mapIdx, id, Array.size_map]
    by_cases h : o ≤ j ∧ j < o + d.size
    · rw [if_pos h, if_pos h, getElem!_pos d _ (by omega), getElem!_pos (d.map enc) _ (by simp; omega), Array.getElem_map]
    · rw [if_neg h, if_neg h]
  unfold putRow
  rw [e]
theorem holds_strs {w : World} {K : Nat → Prop} {blk o n c : Nat} {zs : List (List UInt8)} (hn : zs.length = n) (h : OwnK 9 1 w K (some ⟨blk, o, none⟩) n c (zs.map encStr)) : Holds encStr w blk o zs.toArray := fun j hj => by
  have hj' : j < zs.length := by simpa using hj
  have := h.cell j (by omega)
  refine ⟨?_, this.2⟩
  rw [this.1, List.getElem?_map, getElem!_pos zs.toArray j hj, List.getElem?_eq_getElem hj']; simp
theorem own_same {w w' : World} {r : Option Nat} (h : w' = w) : w.grownBy w' r := by
  subst h
  exact ⟨rfl, rfl, rfl, Nat.le_refl _, fun k hk _ => rfl⟩
/-- slices.Sort of strings. -/
theorem strSort_any (K : Nat → Prop) (A : Option Addr) (n c : Nat) (zs : List (List UInt8)) (w : World) (hn : zs.length = n) (h : OwnK 9 1 w K A n c (zs.map encStr)) (hsz : n < 4611686018427387904) :
    Calls Try.prog 17 #[.slice A n c] w fun e w' => e = .returned (.tuple #[]) ∧ OwnK 9 1 w' K A n c ((zs.mergeSort fun x y => decide (x ≤ y)).map encStr) ∧ w.grownBy w' (Value.slice A n c).ownBlock := by
  subst hn
  rcases Nat.eq_zero_or_pos zs.length with h0 | h0
  · have hz := List.eq_nil_of_length_eq_zero h0
    subst hz
    have hS := Any.slices_Sort_string_none layStrSort A c w
    change Calls Try.prog 17 _ _ _ at hS
    exact hS.mono fun e w' ⟨he, hw⟩ => ⟨he, by rw [hw]; simpa using h, own_same hw⟩
  · obtain ⟨blk, o, rfl, hlt, _⟩ := h.shape h0
    have hS := Any.slices_Sort_string layStrSort blk o c zs w (holds_strs rfl h) hlt hsz
    change Calls Try.prog 17 _ _ _ at hS
    refine hS.mono fun e w' ⟨he, m, os, hw⟩ => ⟨he, ?_, ?_⟩
    · rw [hw, putRow_map]
      have := h.sorted (F := ((zs.mergeSort fun x y => decide (x ≤ y)).toArray.map encStr)) (by simp) m os
      simpa using this
    · rw [hw, putRow_map]
      exact grownBy_put _
/-- slices.Compact of strings: how many it leaves. -/
theorem strCompact_any (K : Nat → Prop) (A : Option Addr) (n c : Nat) (zs : List (List UInt8)) (w : World) (hn : zs.length = n) (h : OwnK 9 1 w K A n c (zs.map encStr)) (hsz : n < 4611686018427387904) :
    Calls Try.prog 18 #[.slice A n c] w fun e w' => e = .returned (.slice A (Lib.compact zs).length c) ∧ w.grownBy w' (Value.slice A n c).ownBlock := by
  subst hn
  rcases Nat.eq_zero_or_pos zs.length with h0 | h0
  · have hz := List.eq_nil_of_length_eq_zero h0
    subst hz
    have hS := Any.slices_Compact_string_empty layCompactStr A c w
    change Calls Try.prog 18 _ _ _ at hS
    exact hS.mono fun e w' ⟨he, hw⟩ => ⟨he, own_same hw⟩
  · obtain ⟨blk, o, rfl, hlt, _⟩ := h.shape h0
    have hS := Any.slices_Compact_string layCompactStr blk o c zs w (holds_strs rfl h) (by omega) h.cap.1
    change Calls Try.prog 18 _ _ _ at hS
    refine hS.mono fun e w' ⟨he, q, hw⟩ => ⟨he, ?_⟩
    rw [hw, putRow_map]
    have := grownBy_put (w := w) (g := blk) (o := o) (n := q) (os := #[]) ((Lib.compact zs ++ List.replicate (zs.length - (Lib.compact zs).length) []).toArray.map encStr)
    rwa [grow_empty] at this
end Go.Proofs.Ytjdeckjkcpglcaa
