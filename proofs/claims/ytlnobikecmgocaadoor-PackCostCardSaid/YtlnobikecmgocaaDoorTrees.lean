/- The walk of the laws' helper trees. -/
import Derived.Test.YtlnobikecmgocaaDoorTreeLens
import Derived.Test.YtlnobikecmgocaaDoorEqual
import Derived.Test.YtlnobikecmgocaaDoorGood
namespace Go.Proofs.YtlnobikecmgocaaDoor
open Go.RowKit
set_option linter.unusedVariables false

/-- What Lens tells of 5, 1, 1, 2. -/
theorem trees_one {o : List Nat} (h : LensOk [5, 1, 1, 2] o) : o = [1, 3, 3, 2] := by
  have hl := h.len
  obtain ⟨a, b, c, d, rfl⟩ : ∃ a b c d, o = [a, b, c, d] := by
    rcases o with _ | ⟨a, _ | ⟨b, _ | ⟨c, _ | ⟨d, _ | ⟨e, o⟩⟩⟩⟩⟩ <;> first | exact ⟨_, _, _, _, rfl⟩ | simp at hl
  have ha := h.bd 0 (by decide)
  have hb := h.bd 1 (by decide)
  have hc := h.bd 2 (by decide)
  have hd := h.bd 3 (by decide)
  have hr := h.room 4 (by decide)
  have hm := h.least [1, 3, 3, 2] 3 rfl (by decide) (by unfold Kr; decide)
  have e : costO [5, 1, 1, 2] [1, 3, 3, 2] = 15 := by decide
  rw [e] at hm
  simp only [List.getD_cons_zero, List.getD_cons_succ, List.length_cons, List.length_nil] at ha hb hc hd
  have key : ∀ a b c d : Fin 5, 1 ≤ a.1 → 1 ≤ b.1 → 1 ≤ c.1 → 1 ≤ d.1 → krW 4 ([5, 1, 1, 2].zip [a.1, b.1, c.1, d.1]) ≤ 2 ^ 4 → costO [5, 1, 1, 2] [a.1, b.1, c.1, d.1] ≤ 15 → [a.1, b.1, c.1, d.1] = [1, 3, 3, 2] := by decide +kernel
  exact key ⟨a, by omega⟩ ⟨b, by omega⟩ ⟨c, by omega⟩ ⟨d, by omega⟩ ha.1 hb.1 hc.1 hd.1 hr hm

theorem fresh_ints4 (l : List Int) (w : World) : Reads (w.alloc (Obj.cells (l.map (Value.int .i64)).toArray 3)) (w.heap.size + 1) (some ⟨w.heap.size, 0, none⟩) l.length 1 (l.flatMap cInt) := by
  have h := Reads.of_fresh w (l.map (Value.int .i64)).toArray 3 l.length 1 (by simp)
  have e : ∀ l : List Int, (l.map (Value.int .i64)).toArray.toList = l.flatMap cInt := fun l => by
    rw [List.toList_toArray]
    induction l with
    | nil => rfl
    | cons x l ih => rw [List.map_cons, List.flatMap_cons, ← ih]; rfl
  rwa [e] at h

set_option maxRecDepth 100000 in
set_option maxHeartbeats 1000000 in
theorem trees_any (w : World) : Calls Tryd.prog 6 #[] w fun e w' => e = .returned (.bool true) ∧ Below w.heap.size w w' := by
  have r1 := fresh_ints4 [5, 1, 1, 2] w
  have hL := treeLens_any (some ⟨w.heap.size, 0, none⟩) 4 4 (w.heap.size + 1) [5, 1, 1, 2] _ (by decide) rfl r1 (by simp)
  have hb0 : Below w.heap.size w (w.alloc (Obj.cells #[.int .i64 5, .int .i64 1, .int .i64 1, .int .i64 2] 3)) := (Below.refl _ _).alloc (Nat.le_refl _) _
  have HL := Lib.hid hL
  have hck : checkT [5, 1, 1, 2] = 0 := by decide
  clear r1 hL
  go_enter Tryd.func6, Tryd.ntmps6
  go_wp2_with fail
  refine HL.out.mono ?_
  rintro e w1 ⟨hb1, ⟨hno, _⟩ | ⟨_, g, o, rfl, hok, hr⟩⟩
  · exact absurd hck hno
  have hb1' : Below w.heap.size w w1 := hb0.trans (hb1.mono (by simp))
  obtain rfl := trees_one hok
  clear hok hb1 hb0 HL
  have r2 := fresh_ints4 [1, 3, 3, 2] w1
  have hr2 := hr.alloc (Nat.le_refl _) (Obj.cells #[.int .i64 1, .int .i64 3, .int .i64 3, .int .i64 2] 3)
  have hE := equalInt_any (some ⟨g, 0, none⟩) (some ⟨w1.heap.size, 0, none⟩) 4 4 4 4 _ _ [1, 3, 3, 2] [1, 3, 3, 2] _ (by decide) (by decide) rfl rfl hr2 r2
  have HE := Lib.hid hE
  have hb2 : Below w.heap.size w (w1.alloc (Obj.cells #[.int .i64 1, .int .i64 3, .int .i64 3, .int .i64 2] 3)) := hb1'.alloc hb1'.size _
  clear hE r2 hr2 hr
  go_wp2_with fail
  refine HE.out.mono ?_
  rintro e w3 ⟨rfl, hb3⟩
  have hb4 := hb2.trans (hb3.mono hb2.size)
  go_wp2
  all_goals (go_ret; exact ⟨by simp, hb4⟩)
end Go.Proofs.YtlnobikecmgocaaDoor
