/- A row of one's own that the library sorts. -/
import Derived.Test.YtpnpalbdlhlnkaaOwnK
import Derived.Sort.OwnSorted
import Derived.Shelf.SlSortCmp.InsertionK
namespace Go.Proofs.Ytpnpalbdlhlnkaa
open Go.RowKit Go.Sort
set_option linter.unusedVariables false

theorem flatK_list {α : Type} [Inhabited α] (enc : α → List Value) (k : Nat) (hk : ∀ x, (enc x).length = k) (d : Array α) : (flatK enc k d).toList = d.toList.flatMap enc := by
  have h0 := flat_length enc k hk d.toList
  refine List.ext_getElem? fun t => ?_
  by_cases ht : t < d.size * k
  · have kp : 0 < k := by rcases Nat.eq_zero_or_pos k with h | h; · subst h; simp at ht
                          · exact h
    have hq : t / k < d.size := Nat.div_lt_of_lt_mul (by rw [Nat.mul_comm]; exact ht)
    have hm : t % k < k := Nat.mod_lt _ kp
    have e1 : (flatK enc k d).toList[t]? = some ((enc d[t / k]!)[t % k]!) := by
      rw [Array.getElem?_toList, Array.getElem?_eq_getElem (by simpa using ht)]
      have := get_flatK enc k d t ht
      rw [getElem!_pos _ t (by simpa using ht)] at this
      rw [this]
    rw [e1]
    have e2 : (d.toList.flatMap enc).getD t undef = (enc d[t / k]!)[t % k]! := by
      have h3 := flat_getD enc k hk (default : α) d.toList (t / k) (t % k) (by simpa using hq) hm
      have e : t / k * k + t % k = t := by rw [Nat.mul_comm]; exact Nat.div_add_mod t k
      rw [e] at h3
      rw [h3]
      have e4 : d.toList.getD (t / k) default = d[t / k]! := by
        rw [List.getD_eq_getElem?_getD, List.getElem?_eq_getElem (by simpa using hq), getElem!_pos d (t / k) hq]
        rfl
      rw [e4, List.getD_eq_getElem?_getD, List.getElem?_eq_getElem (by rw [hk]; exact hm), getElem!_pos (enc _) (t % k) (by rw [hk]; exact hm)]
      rfl
    have hl : t < (d.toList.flatMap enc).length := by rw [h0]; simpa using ht
    rw [List.getElem?_eq_getElem hl]
    rw [List.getD_eq_getElem?_getD, List.getElem?_eq_getElem hl] at e2
    rw [← e2]; rfl
  · rw [List.getElem?_eq_none (by simp; omega), List.getElem?_eq_none (by rw [h0]; simp; omega)]

section
variable {T : TypeId} {s : Nat} {w w' : World} {K : Nat → Prop} {A : Option Addr} {n c g o : Nat} {xs : List Value}
theorem OwnK.holds (h : OwnK T s w K (some ⟨g, o, none⟩) n c xs) : Holds id w g o xs.toArray := fun j hj => by
  have hj' : j < n * s := by rw [← h.1]; simpa using hj
  obtain ⟨h1, h2⟩ := h.cell j hj'
  refine ⟨?_, h2⟩
  rw [h1, getElem!_pos _ j hj]
  simp at hj ⊢
/-- A row of one's own, laid anew. -/
theorem OwnK.sorted {F : Array Value} (h : OwnK T s w K (some ⟨g, o, none⟩) n c xs) (hF : F.size = n * s) (m : Nat) (os : Array Obj) : OwnK T s (grow (putRow id (Sort.ahead w m) g o F) os) K (some ⟨g, o, none⟩) n c F.toList := by
  refine ⟨by simpa using hF, ?_⟩
  rcases h.2 with ⟨h0, _⟩ | ⟨g', o', cur, hv, hb, hg, h1, h2, h3, h4⟩
  · cases h0
  · injection hv with hv
    injection hv with hv hv2
    subst hv hv2
    have hle : n * s ≤ c * s := Nat.mul_le_mul_right _ h1
    refine .inr ⟨g, o, putCells id o F cur, rfl, hb, ?_, h1, h2, by simpa [putCells] using h3, ?_⟩
    · unfold Blk at hg ⊢
      have hg' : g < w.heap.size := (Array.getElem?_eq_some_iff.1 hg).1
      rw [heap_grow_old _ _ (by simpa using hg')]
      simp [putRow, mapBlock, Sort.ahead, Array.getElem?_modify, hg, onCells]
    · refine List.ext_getElem? fun j => ?_
      by_cases hj : j < n * s
      · rw [List.getElem?_take_of_lt hj, List.getElem?_drop, Array.getElem?_toList, Array.getElem?_toList, Array.getElem?_eq_getElem (by simp [putCells]; omega), Array.getElem?_eq_getElem (by omega)]
        simp only [putCells, Array.getElem_mapIdx, id]
        rw [if_pos (by omega), Nat.add_sub_cancel_left, getElem!_pos _ _ (by omega)]
      · rw [List.getElem?_eq_none (by rw [List.length_take]; omega), List.getElem?_eq_none (by simp; omega)]
end
theorem grownBy_put {w : World} {g o n : Nat} {os : Array Obj} (F : Array Value) : w.grownBy (grow (putRow id (Sort.ahead w n) g o F) os) (some g) := by
  refine ⟨rfl, rfl, rfl, by simp, fun k hk hne => ?_⟩
  rw [heap_grow_old _ _ (by simpa using hk)]
  have : g ≠ k := fun e => hne (by rw [e])
  simp [putRow, mapBlock, Sort.ahead, Array.getElem?_modify, this]
end Go.Proofs.Ytpnpalbdlhlnkaa
