/- suffix.Common where it refuses; the walk of the laws' helper ends. -/
import Derived.Test.YtkbogiijbmjbmaaCommonWalk
import Derived.Test.YtkbogiijbmjbmaaEqual
import Derived.Test.YtkbogiijbmjbmaaGood
namespace Go.Proofs.Ytkbogiijbmjbmaa
open Go.RowKit
set_option linter.unusedVariables false

set_option maxHeartbeats 1000000 in
theorem common_no (s : ByteArray) (hs : 200 < s.size) (w : World) : Calls Try.prog 22 #[.string s] w fun e w' => e = .returned (.tuple #[.slice none 0 0, .int .i64 2]) ∧ RowKit.Below w.heap.size w w' := by
  have H1 := Lib.hid (order_no s hs)
  go_enter Try.func22, Try.ntmps22
  go_wp2_with fail
  refine (H1.out _).mono ?_
  rintro e w1 ⟨rfl, hb1⟩
  go_wp2
  go_ret2
  exact ⟨rfl, hb1⟩
theorem fresh_ints3 (l : List Int) (w : World) : Reads (w.alloc (Obj.cells (l.map (Value.int .i64)).toArray 3)) (w.heap.size + 1) (some ⟨w.heap.size, 0, none⟩) l.length 1 (l.flatMap cInt) := by
  have h := Reads.of_fresh w (l.map (Value.int .i64)).toArray 3 l.length 1 (by simp)
  have e : ∀ l : List Int, (l.map (Value.int .i64)).toArray.toList = l.flatMap cInt := fun l => by
    rw [List.toList_toArray]
    induction l with
    | nil => rfl
    | cons x l ih => rw [List.map_cons, List.flatMap_cons, ← ih]; rfl
  rwa [e] at h
set_option maxRecDepth 100000 in
set_option maxHeartbeats 1000000 in
theorem ends_any (w : World) : Calls Try.prog 6 #[] w fun e w' => e = .returned (.bool true) ∧ RowKit.Below w.heap.size w w' := by
  have H1 := Lib.hid (order_ok ⟨#[97, 98, 97]⟩ (by decide))
  have H2 := Lib.hid (common_ok ⟨#[97, 98, 97]⟩ (by decide))
  go_enter Try.func6, Try.ntmps6
  go_wp2_with fail
  refine (H1.out _).mono ?_
  rintro e w1 ⟨g1, rfl, hg1, hi1, hb1⟩
  have e1 : natsI (sOrd (⟨#[97, 98, 97]⟩ : ByteArray).data.toList) = [2, 0, 1] := by
    show natsI (sOrd [97, 98, 97]) = _
    rw [sOrd_known]; rfl
  rw [e1] at hi1
  go_wp2_with fail
  refine (H2.out _).mono ?_
  rintro e w2 ⟨g2, rfl, hg2, hi2, hb2⟩
  have e2 : lcpsI (⟨#[97, 98, 97]⟩ : ByteArray).data.toList = [0, 1, 0] := lcps_known
  rw [e2] at hi2
  have r1 := (hi1.below hb2 hi1.1).row (n := 3) rfl
  have r2 := hi2.row (n := 3) rfl
  have hb2 := chain hb2 hb1
  clear e1 e2 hi1 hi2 hb1
  go_wp2_with fail
  refine (good_fresh [0, 0] 2 2 rfl (by decide) _ _).mono ?_
  rintro e w3 ⟨rfl, hb3⟩
  have r1 := r1.after hb3
  have r2 := r2.after hb3
  have hb3 := chain hb3 hb2
  have HE1 := Lib.hid (equalInt_any (some ⟨g1, 0, none⟩) (some ⟨w3.heap.size, 0, none⟩) 3 3 3 3 _ _ [2, 0, 1] [2, 0, 1] _ (by decide) (by decide) rfl rfl (r1.alloc (Nat.le_refl _) (Obj.cells #[.int .i64 2, .int .i64 0, .int .i64 1] 3)) (fresh_ints3 [2, 0, 1] w3))
  have r2 := r2.alloc (Nat.le_refl _) (Obj.cells #[.int .i64 2, .int .i64 0, .int .i64 1] 3)
  have hb4 := hb3.alloc hb3.size (Obj.cells #[.int .i64 2, .int .i64 0, .int .i64 1] 3)
  clear r1
  go_wp2_with fail
  refine HE1.out.mono ?_
  rintro e w5 ⟨rfl, hb5⟩
  have r2 := r2.below (hb5.mono (by simp))
  have hb5' := hb4.trans (hb5.mono hb4.size)
  have hs5 := hb5.size
  simp only [World.size_alloc] at hs5
  have HE2 := Lib.hid (equalInt_any (some ⟨g2, 0, none⟩) (some ⟨w5.heap.size, 0, none⟩) 3 3 3 3 _ _ [0, 1, 0] [0, 1, 0] _ (by decide) (by decide) rfl rfl (r2.alloc (by omega) (Obj.cells #[.int .i64 0, .int .i64 1, .int .i64 0] 3)) (fresh_ints3 [0, 1, 0] w5))
  have hb6 := hb5'.alloc hb5'.size (Obj.cells #[.int .i64 0, .int .i64 1, .int .i64 0] 3)
  clear r2
  go_wp2_with fail
  refine HE2.out.mono ?_
  rintro e w7 ⟨rfl, hb7⟩
  have hb8 := hb6.trans (hb7.mono hb6.size)
  go_wp2
  go_ret
  exact ⟨by simp, hb8⟩
end Go.Proofs.Ytkbogiijbmjbmaa
