/- EditUndone's walk: undoing a script restores the string, and redoing it repeats the result. -/
import Derived.Test.YtppbjomobbaeaaaUndoWalk
import Derived.Test.YtppbjomobbaeaaaEditLaws
import Derived.Test.YtppbjomobbaeaaaEqual
import Derived.Test.YtppbjomobbaeaaaGood
import Derived.Test.YtppbjomobbaeaaaArgs
namespace Go.Proofs.Ytppbjomobbaeaaa
open Go.RowKit
set_option linter.unusedVariables false

set_option maxRecDepth 100000 in
set_option maxHeartbeats 4000000 in
theorem editUndone_walk (s : ByteArray) (A : Option Addr) (len cap : Nat) (l : List Ed) (hs : s.size ≤ 140737488351232) (w : World) (hl : EditsIn w A len cap l) :
    Calls Try.prog 13 #[.string s, .slice A len cap] w fun e w' => e = .returned (.bool true) ∧ Below w.heap.size w w' := by
  obtain ⟨hll, hrd, hlen, hok, hcap, hcapm, hnil⟩ := hl
  clear hcap hcapm hnil
  have Hll := Lib.hid hll
  have Hok := Lib.hid hok
  clear hll hok
  go_enter Try.func13, Try.ntmps13
  go_wp2_with fail
  refine (edits_any _).mono ?_
  rintro e w1 ⟨rfl, hb1⟩
  have hrd1 := hrd.below hb1
  by_cases hE : checkE s.size l = 0
  case neg =>
    go_wp2_with fail
    refine (apply_no s (by omega) A len cap w.heap.size l (by omega) Hll.out Hok.out (checkE s.size l) rfl hE w1 hrd1 hb1.size).mono ?_
    rintro e w2 ⟨rfl, hb2⟩
    have hbw2 := chain hb2 hb1
    have hrd2 := hrd.below hbw2
    go_wp2_with fail
    refine (undo_no s (by omega) A len cap w.heap.size l (by omega) Hll.out Hok.out (checkE s.size l) rfl hE w2 hrd2 hbw2.size).mono ?_
    rintro e w3 ⟨rfl, hb3⟩
    have hbw3 := chain hb3 hbw2
    have q5 : (checkE s.size l != 0) = true := by simpa using hE
    have q6 : (checkE s.size l == 0) = false := by simpa using hE
    generalize checkE s.size l = E at *
    clear hE
    go_wp2
    go_ret
    exact ⟨rfl, hbw3⟩
  have HE := Lib.hid hE
  clear hE
  go_wp2_with fail
  refine (apply_ok s A len cap w.heap.size l Hll.out HE.out w1 hrd1 hb1.size).mono ?_
  rintro e w2 ⟨rfl, hb2⟩
  have hbw2 := chain hb2 hb1
  have hrd2 := hrd.below hbw2
  go_wp2_with fail
  refine (undo_ok s A len cap w.heap.size l Hll.out HE.out w2 hrd2 hbw2.size).mono ?_
  rintro e w3 ⟨hb3, hu⟩
  have hbw3 := chain hb3 hbw2
  rcases hu with ⟨hdel, Au, cu, rfl, hru, hcu⟩ | ⟨_, rfl⟩
  case inr =>
    generalize (ByteArray.mk (app s.data.toList 0 l).toArray) = T at *
    go_wp2
    go_ret
    exact ⟨rfl, hbw3⟩
  obtain ⟨p1, p2, p3, p4⟩ := edit_undone s.data.toList l HE.out hdel
  have hul := undo_length s.data.toList l 0
  have hTs : (ByteArray.mk (app s.data.toList 0 l).toArray).data.toList = app s.data.toList 0 l := rfl
  have a1 := apply_ok ⟨(app s.data.toList 0 l).toArray⟩ Au l.length cu w3.heap.size (undoE s.data.toList 0 l) hul p1 w3 hru (Nat.le_refl _)
  rw [hTs, p2, show (ByteArray.mk s.data.toList.toArray) = s from by simp] at a1
  have a2 := fun w h hB => undo_ok ⟨(app s.data.toList 0 l).toArray⟩ Au l.length cu w3.heap.size (undoE s.data.toList 0 l) hul p1 w h hB
  rw [hTs] at a2
  unfold ToldUndo at a2
  rw [p3, hul] at a2
  generalize (ByteArray.mk (app s.data.toList 0 l).toArray) = T at *
  generalize undoE s.data.toList 0 l = U at *
  have A1 := Lib.hid a1
  have A2 := Lib.hid a2
  have P4 := Lib.hid p4
  clear a1 a2 p1 p2 p3 p4 hTs hb1 hb2 hb3 hrd1 hrd2 hul hdel HE
  go_wp2_with fail
  refine (A1.out).mono ?_
  rintro e w4 ⟨rfl, hb4⟩
  have hbw4 := chain hb4 hbw3
  go_wp2_with fail
  refine (A2.out _ (hru.below' hb4 (Nat.le_refl _)) hb4.size).mono ?_
  rintro e w5 ⟨hb5, hv⟩
  rcases hv with ⟨_, Av, cv, rfl, hrv, hcv⟩ | ⟨hbad, _⟩
  case inr => exact absurd P4.out hbad
  have hbw5 := chain hb5 hbw4
  have hrd5 := hrd.below hbw5
  have q1 : (s.toList == s.toList) = true := by simp
  go_wp2_with fail
  refine (good_fresh [0, 0] 2 2 rfl (by decide) _ _).mono ?_
  rintro e w6 ⟨rfl, hb6⟩
  have q0 : ([0, 0] : List Int).all (· == 0) = true := by decide
  have hbw6 := chain hb6 hbw5
  go_wp2_with fail
  refine (equalEdit_any Av A l.length len cv cap w5.heap.size w.heap.size l l w6 (by have := Hll.out; omega) (by omega) rfl Hll.out (hrv.below' hb6 (Nat.le_refl _)) (hrd.below hbw6)).mono ?_
  rintro e w7 ⟨rfl, hb7⟩
  have hbw7 := chain hb7 hbw6
  go_wp2
  go_ret
  exact ⟨by simp, hbw7⟩

end Go.Proofs.Ytppbjomobbaeaaa
