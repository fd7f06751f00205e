/- The walk of the laws' helper leaves. -/
import Derived.Test.YtgoofbbbnphncaaDoorLeafRead
import Derived.Test.YtgoofbbbnphncaaDoorGood
import Derived.Test.YtgoofbbbnphncaaDoorSlice
namespace Go.Proofs.YtgoofbbbnphncaaDoor
open Go.RowKit
set_option linter.unusedVariables false

theorem edsAt_new (w : World) (a d : Int) (ins : ByteArray) (c : Nat) (h : (-9223372036854775808 ≤ a ∧ a ≤ 9223372036854775807) ∧ (-9223372036854775808 ≤ d ∧ d ≤ 9223372036854775807) ∧ ins.size ≤ 140737488351232) :
    EdsAt (w.alloc (Obj.cells #[.int .i64 a, .int .i64 d, .string ins] 42)) (some ⟨w.heap.size, 0, none⟩) 1 c [(a, d, ins)] :=
  ⟨rfl, by decide, fun x hx => by rw [List.mem_singleton.1 hx]; exact h, Reads.made w #[.int .i64 a, .int .i64 d, .string ins] 42 1 3 rfl⟩
def lvH1 : LH := [(98 :: (ByteArray.mk #[97, 98]).data.toList, ⟨#[97, 98]⟩)]
def lvH2 : LH := lvH1 ++ [(101 :: writeL [(2, 0, ⟨#[99]⟩)], ⟨#[97, 98, 99]⟩)]
theorem lv1 : leafE ⟨#[97, 98]⟩ lvH1 [(2, 0, ⟨#[99]⟩)] = 0 ∧ leafT ⟨#[97, 98]⟩ lvH1 [(2, 0, ⟨#[99]⟩)] = ⟨#[97, 98, 99]⟩ := by decide +kernel
theorem lv2 : leafH ⟨#[97, 98]⟩ lvH1 [(2, 0, ⟨#[99]⟩)] = lvH2 := by
  unfold leafH
  rw [if_pos lv1.1, lv1.2]; rfl
theorem lv3 : leafE ⟨#[97, 98, 99]⟩ lvH2 [(0, 1, ⟨#[]⟩)] = 0 ∧ leafT ⟨#[97, 98, 99]⟩ lvH2 [(0, 1, ⟨#[]⟩)] = ⟨#[98, 99]⟩ := by decide +kernel
def lvH3 : LH := lvH2 ++ [(101 :: writeL [(0, 1, ⟨#[]⟩)], ⟨#[98, 99]⟩)]
theorem lv4 : leafH ⟨#[97, 98, 99]⟩ lvH2 [(0, 1, ⟨#[]⟩)] = lvH3 := by
  unfold leafH
  rw [if_pos lv3.1, lv3.2]; rfl
theorem lv5 : lvH3.take lvH2.length = lvH2 := rfl

set_option maxRecDepth 100000 in
set_option maxHeartbeats 2000000 in
theorem leaves_any (w : World) (ht : Tab w) : Calls Tryd.prog 13 #[] w fun e w' => e = .returned (.bool true) ∧ Below w.heap.size w w' := by
  have N1 := Lib.hid (leafNew_ok ⟨#[97, 98]⟩ (by decide) w)
  have hbd := buildEdit
  go_enter Tryd.func13, Tryd.ntmps13
  go_wp2_with fail
  refine N1.out.mono ?_
  rintro e w1 ⟨gl, g, rfl, hl1, hgl, hgg, hb1⟩
  have hB := hb1.size
  go_wp2_with fail
  have ea := edsAt_new w1 2 0 ⟨#[99]⟩ 1 (by decide)
  have hb1' := hb1.alloc hB (Obj.cells #[.int .i64 2, .int .i64 0, .string ⟨#[99]⟩] 42)
  have hl1' := hl1.after ((Below.refl _ _).alloc (Nat.le_refl _) (Obj.cells #[.int .i64 2, .int .i64 0, .string ⟨#[99]⟩] 42))
  refine (leafEdit gl g 1 _ lvH1 _ 1 1 _ _ (ht.after hb1') hl1' ea).mono ?_
  rintro e w2 ⟨rfl, hl2, ho2⟩
  rw [lv1.1]
  rw [lv1.2, lv2] at hl2
  have hb2 := ho2.below hb1' hgl hgg (Nat.le_trans hB (by simp))
  clear ea hb1' hl1' hl1 hb1 ho2
  go_wp2_with fail
  refine (leafSave gl g 1 _ lvH2 w2 hl2).mono ?_
  rintro e w3 ⟨rfl, hl3, ho3⟩
  have hb3 := ho3.below hb2 hgl hgg hb2.size
  clear hl2 hb2 ho3
  go_wp2_with fail
  have ea := edsAt_new w3 0 1 ⟨#[]⟩ 1 (by decide)
  have hb3' := hb3.alloc hb3.size (Obj.cells #[.int .i64 0, .int .i64 1, .string ⟨#[]⟩] 42)
  have hl3' := hl3.after ((Below.refl _ _).alloc (Nat.le_refl _) (Obj.cells #[.int .i64 0, .int .i64 1, .string ⟨#[]⟩] 42))
  refine (leafEdit gl g _ _ lvH2 _ 1 1 _ _ (ht.after hb3') hl3' ea).mono ?_
  rintro e w4 ⟨rfl, hl4, ho4⟩
  rw [lv3.1]
  rw [lv3.2, lv4] at hl4
  have hb4 := ho4.below hb3' hgl hgg (Nat.le_trans hb3.size (by simp))
  clear ea hb3' hl3' hl3 hb3 ho4
  go_wp2_with fail
  refine (leafText gl g _ _ _ w4 hl4).mono ?_
  rintro e w5 ⟨rfl, rfl⟩
  have hj : lvH2.length ≤ lvH3.length := by decide
  obtain ⟨i, hi⟩ := whole_to lvH3 ((framesL ((recs lvH3).take lvH2.length)).length + 0)
  have hij := hi.at_ hj
  subst hij
  have hcr := leafCrash_ok gl g _ 0 _ _ _ w4 hl4 (by rw [Nat.add_zero]; exact frames_take_le _ _) hi
  rw [lv5] at hcr
  have Hcr := Lib.hid hcr
  clear hcr hi hj
  go_wp2_with fail
  refine Hcr.out.mono ?_
  rintro e w6 ⟨rfl, hl6, ho6⟩
  have hb6 := ho6.below hb4 hgl hgg hb4.size
  clear hl4 hb4 ho6 Hcr
  go_wp2_with fail
  refine (good_fresh [0, 0, 0] 3 3 rfl (by decide) _ _).mono ?_
  rintro e w7 ⟨rfl, hb7⟩
  have q0 : ([0, 0, 0] : List Int).all (· == 0) = true := by decide
  have hl7 := hl6.after hb7
  have hb7' := chain hb7 hb6
  clear hl6
  go_wp2_with fail
  refine (leafText gl g _ _ _ w7 hl7).mono ?_
  rintro e w8 ⟨rfl, rfl⟩
  have e1 : endT ⟨#[]⟩ lvH2 = ⟨#[97, 98, 99]⟩ := rfl
  rw [e1]
  go_wp2
  go_ret
  exact ⟨rfl, hb7'⟩
end Go.Proofs.YtgoofbbbnphncaaDoor
