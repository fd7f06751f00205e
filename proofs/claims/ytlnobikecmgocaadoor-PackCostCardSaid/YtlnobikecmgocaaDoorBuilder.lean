/- strings.Builder: written, and read at the end. -/
import Derived.Test.YtlnobikecmgocaaDoorLaidBuilder
import Derived.Test.YtlnobikecmgocaaDoorCodeCheck
import Derived.Test.YtlnobikecmgocaaDoorOwnK
namespace Go.Proofs.YtlnobikecmgocaaDoor
open Go.RowKit
set_option linter.unusedVariables false

theorem layWSX : Go.Proofs.Builder.Extra Tryd.prog layWS_ren := {
  sizeBuilder := by kernel_rfl, liesBuilder := by kernel_rfl, t5 := Tryd.underlying5, a5 := Tryd.isAgg5, z5 := Tryd.sizeOf5, v5 := Tryd.zeroValue5, infoByte := by kernel_rfl, cellsByte := by kernel_rfl, sizeByte := by kernel_rfl, neB5 := by decide }
theorem layBSX : Go.Proofs.Builder.Extra Tryd.prog layBS_ren := {
  sizeBuilder := by kernel_rfl, liesBuilder := by kernel_rfl, t5 := Tryd.underlying5, a5 := Tryd.isAgg5, z5 := Tryd.sizeOf5, v5 := Tryd.zeroValue5, infoByte := by kernel_rfl, cellsByte := by kernel_rfl, sizeByte := by kernel_rfl, neB5 := by decide }
/-- A builder that holds these bytes. -/
def Bld (w : World) (b : Nat) (l : Wd) : Prop := Lib.IsBuilder 51 5 b b (Lib.byteCells l) w
theorem Bld.new (w : World) : Bld (w.alloc (.cells #[.pointer none, .slice none 0 0] 51)) w.heap.size [] := Lib.fresh_isBuilder _ _ w
theorem Bld.lt {w : World} {b : Nat} {l : Wd} (h : Bld w b l) : b < w.heap.size := by
  rcases h with ⟨_, v, hb, _⟩ | ⟨_, v, hb, _⟩ <;> exact (Array.getElem?_eq_some_iff.1 hb).1
theorem Bld.keep {w w' : World} {b : Nat} {l : Wd} (h : Bld w b l) (hk : ∀ (k : Nat) (t : TypeId) (cs : Array Value), t = 51 ∨ t = 5 → w.heap[k]? = some (Obj.cells cs t (0, 0)) → w'.heap[k]? = some (Obj.cells cs t (0, 0))) : Bld w' b l := by
  have key : ∀ p, Lib.BuilderAt 51 5 b b p (Lib.byteCells l) w → Lib.BuilderAt 51 5 b b p (Lib.byteCells l) w' := fun p ⟨h1, v, hb, hown, hne⟩ => by
    refine ⟨h1, v, hk b _ _ (.inl rfl) hb, ⟨hown.1, ?_⟩, hne⟩
    rcases hown.2 with h0 | ⟨g, cap, cur, hv, hB, hg, rest⟩
    · exact .inl h0
    · exact .inr ⟨g, cap, cur, hv, hB, hk g _ _ (.inr rfl) hg, rest⟩
  rcases h with h | h
  · exact .inl (key _ h)
  · exact .inr (key _ h)
theorem Bld.after {w w' : World} {b : Nat} {l : Wd} (h : Bld w b l) (hb : Below w.heap.size w w') : Bld w' b l := h.keep fun k t cs _ hk => by
  rw [hb.block k (Array.getElem?_eq_some_iff.1 hk).1]; exact hk
/-- What grows a row of another kind leaves it. -/
theorem Bld.grown {w w' : World} {b : Nat} {l : Wd} {row : Option Nat} (h : Bld w b l) (hg : w.grownBy w' row) (hr : ∀ g, row = some g → ∃ cs, Blk w g 3 cs) : Bld w' b l := h.keep fun k t cs ht hk => by
  rw [hg.block k (Array.getElem?_eq_some_iff.1 hk).1 (fun e => by
    obtain ⟨cs', h'⟩ := hr k e.symm
    have h2 : w.heap[k]? = _ := h'
    rw [hk] at h2
    injection h2 with h2
    injection h2 with _ h2 _
    rcases ht with rfl | rfl
    · exact absurd h2 (by decide)
    · exact absurd h2 (by decide))]
  exact hk
theorem bldWrite (b : Nat) (l : Wd) (s : ByteArray) (w : World) (h : Bld w b l) (hlen : l.length + s.size ≤ 140737488355328) :
    Calls Tryd.prog 23 #[.pointer (some ⟨b, 0, none⟩), .string s] w fun e w' => e = .returned (.tuple #[.int .i64 s.size, .nilIface]) ∧ Bld w' b (l ++ wd s) ∧ Below b w w' := by
  have hc := Any.Builder_WriteString layWS layWSX b b (Lib.byteCells l) s w h (by rw [Lib.byteCells_length]; exact hlen) (Nat.le_of_lt h.lt)
  change Calls Tryd.prog 23 _ _ _ at hc
  refine hc.mono fun e w' ⟨he, hb, hbl⟩ => ⟨he, ?_, hbl⟩
  rw [Lib.strCells_eq, ← Lib.byteCells_append] at hb
  exact .inr hb
theorem bldString (b : Nat) (l : Wd) (w : World) (h : Bld w b l) :
    Calls Tryd.prog 24 #[.pointer (some ⟨b, 0, none⟩)] w fun e w' => e = .returned (.string (⟨l.toArray⟩ : ByteArray)) ∧ Below b w w' := by
  by_cases h0 : l = []
  · subst h0
    have hc := Any.Builder_String_empty layBS layBSX b b w h (Nat.le_of_lt h.lt)
    change Calls Tryd.prog 24 _ _ _ at hc
    exact hc
  · have hc := Any.Builder_String layBS layBSX b b l w h h0
    change Calls Tryd.prog 24 _ _ _ at hc
    exact hc
end Go.Proofs.YtlnobikecmgocaaDoor
