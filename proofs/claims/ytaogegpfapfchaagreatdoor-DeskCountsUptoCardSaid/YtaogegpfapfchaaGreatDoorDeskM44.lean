import Derived.Test.YtaogegpfapfchaaGreatDoorDeskM36
import Derived.Test.YtaogegpfapfchaaGreatDoorDeskM37
import Derived.Test.YtaogegpfapfchaaGreatDoorDeskM38
import Derived.Test.YtaogegpfapfchaaGreatDoorDeskM39
import Derived.Test.YtaogegpfapfchaaGreatDoorDeskM40
import Derived.Test.YtaogegpfapfchaaGreatDoorDeskM41
import Derived.Test.YtaogegpfapfchaaGreatDoorDeskM42
import Derived.Test.YtaogegpfapfchaaGreatDoorDeskM43
import Derived.Test.YtaogegpfapfchaaGreatDoorDeskM24
import Derived.Lib.SplitLaws
import Derived.Test.YtaogegpfapfchaaGreatDoorDeskM35
/- Several texts in one: XDeskLen XDeskNone XDeskAny XCutP XDeskNames. -/
/- The walk of the desk's deed: wrong lengths. -/
namespace Go.Proofs.YtaogegpfapfchaaGreatDoor
open Go.RowKit
set_option linter.unusedVariables false

set_option maxRecDepth 100000 in
set_option maxHeartbeats 4000000 in
theorem deed_new_len (w0 w : World) (gh gd b o n c : Nat) (K : Nat → Prop) (P : List Pg) (x : ByteArray) (h : LoneK w0 gh P K w) (hx : x = kNew) (c0 : w.cell? ⟨b, o, none⟩ = some (.string x)) (h0 : 0 < n) (hn : n ≤ 140737488355328) (hm : n ≠ 3) :
    Calls Tryz.prog 21 #[.pointer (some ⟨gd, 0, none⟩), .slice (some ⟨b, o, none⟩) n c] w fun e w' => e = .panicked (thrown 12) ∧ DeskTo w0 gh K w P w' := by
  have q1 : x.toList = [110, 101, 119] := by rw [hx]; decide +kernel
  have q2 : ((n : Int) == 3) = false := by rw [beq_eq_false_iff_ne]; omega
  have q3 : ¬ (n : Int) = 3 := by omega
  have M := Lib.hid (must_no 12 (by decide))
  have S := Lib.hid (DeskTo.stay h (Below.refl _ _))
  clear hx h
  go_enter Tryz.func21, Tryz.ntmps21
  go_wp2_with fail
  refine (M.out _).mono ?_
  rintro e w3 ⟨rfl, rfl⟩
  exact ⟨rfl, rfl, S.out⟩

set_option maxRecDepth 100000 in
set_option maxHeartbeats 4000000 in
theorem deed_edit_len (w0 w : World) (gh gd b o n c : Nat) (K : Nat → Prop) (P : List Pg) (x : ByteArray) (h : LoneK w0 gh P K w) (hx : x = kEdit) (c0 : w.cell? ⟨b, o, none⟩ = some (.string x)) (h0 : 0 < n) (hn : n ≤ 140737488355328) (hm : n ≠ 5) :
    Calls Tryz.prog 21 #[.pointer (some ⟨gd, 0, none⟩), .slice (some ⟨b, o, none⟩) n c] w fun e w' => e = .panicked (thrown 12) ∧ DeskTo w0 gh K w P w' := by
  have q1 : x.toList = [101, 100, 105, 116] := by rw [hx]; decide +kernel
  have q2 : ((n : Int) == 5) = false := by rw [beq_eq_false_iff_ne]; omega
  have q3 : ¬ (n : Int) = 5 := by omega
  have M := Lib.hid (must_no 12 (by decide))
  have S := Lib.hid (DeskTo.stay h (Below.refl _ _))
  clear hx h
  go_enter Tryz.func21, Tryz.ntmps21
  go_wp2_with fail
  refine (M.out _).mono ?_
  rintro e w3 ⟨rfl, rfl⟩
  exact ⟨rfl, rfl, S.out⟩

set_option maxRecDepth 100000 in
set_option maxHeartbeats 4000000 in
theorem deed_cut_len (w0 w : World) (gh gd b o n c : Nat) (K : Nat → Prop) (P : List Pg) (x : ByteArray) (h : LoneK w0 gh P K w) (hx : x = kCut) (c0 : w.cell? ⟨b, o, none⟩ = some (.string x)) (h0 : 0 < n) (hn : n ≤ 140737488355328) (hm : n ≠ 4) :
    Calls Tryz.prog 21 #[.pointer (some ⟨gd, 0, none⟩), .slice (some ⟨b, o, none⟩) n c] w fun e w' => e = .panicked (thrown 12) ∧ DeskTo w0 gh K w P w' := by
  have q1 : x.toList = [99, 117, 116] := by rw [hx]; decide +kernel
  have q2 : ((n : Int) == 4) = false := by rw [beq_eq_false_iff_ne]; omega
  have q3 : ¬ (n : Int) = 4 := by omega
  have M := Lib.hid (must_no 12 (by decide))
  have S := Lib.hid (DeskTo.stay h (Below.refl _ _))
  clear hx h
  go_enter Tryz.func21, Tryz.ntmps21
  go_wp2_with fail
  refine (M.out _).mono ?_
  rintro e w3 ⟨rfl, rfl⟩
  exact ⟨rfl, rfl, S.out⟩

set_option maxRecDepth 100000 in
set_option maxHeartbeats 4000000 in
theorem deed_make_len (w0 w : World) (gh gd b o n c : Nat) (K : Nat → Prop) (P : List Pg) (x : ByteArray) (h : LoneK w0 gh P K w) (hx : x = kMake) (c0 : w.cell? ⟨b, o, none⟩ = some (.string x)) (h0 : 0 < n) (hn : n ≤ 140737488355328) (hm : n ≠ 3) :
    Calls Tryz.prog 21 #[.pointer (some ⟨gd, 0, none⟩), .slice (some ⟨b, o, none⟩) n c] w fun e w' => e = .panicked (thrown 12) ∧ DeskTo w0 gh K w P w' := by
  have q1 : x.toList = [109, 97, 107, 101] := by rw [hx]; decide +kernel
  have q2 : ((n : Int) == 3) = false := by rw [beq_eq_false_iff_ne]; omega
  have q3 : ¬ (n : Int) = 3 := by omega
  have M := Lib.hid (must_no 12 (by decide))
  have S := Lib.hid (DeskTo.stay h (Below.refl _ _))
  clear hx h
  go_enter Tryz.func21, Tryz.ntmps21
  go_wp2_with fail
  refine (M.out _).mono ?_
  rintro e w3 ⟨rfl, rfl⟩
  exact ⟨rfl, rfl, S.out⟩

set_option maxRecDepth 100000 in
set_option maxHeartbeats 4000000 in
theorem deed_undo_len (w0 w : World) (gh gd b o n c : Nat) (K : Nat → Prop) (P : List Pg) (x : ByteArray) (h : LoneK w0 gh P K w) (hx : x = kUndo) (c0 : w.cell? ⟨b, o, none⟩ = some (.string x)) (h0 : 0 < n) (hn : n ≤ 140737488355328) (hm : n ≠ 2) :
    Calls Tryz.prog 21 #[.pointer (some ⟨gd, 0, none⟩), .slice (some ⟨b, o, none⟩) n c] w fun e w' => e = .panicked (thrown 12) ∧ DeskTo w0 gh K w P w' := by
  have q1 : x.toList = [117, 110, 100, 111] := by rw [hx]; decide +kernel
  have q2 : ((n : Int) == 2) = false := by rw [beq_eq_false_iff_ne]; omega
  have q3 : ¬ (n : Int) = 2 := by omega
  have M := Lib.hid (must_no 12 (by decide))
  have S := Lib.hid (DeskTo.stay h (Below.refl _ _))
  clear hx h
  go_enter Tryz.func21, Tryz.ntmps21
  go_wp2_with fail
  refine (M.out _).mono ?_
  rintro e w3 ⟨rfl, rfl⟩
  exact ⟨rfl, rfl, S.out⟩

set_option maxRecDepth 100000 in
set_option maxHeartbeats 4000000 in
theorem deed_redo_len (w0 w : World) (gh gd b o n c : Nat) (K : Nat → Prop) (P : List Pg) (x : ByteArray) (h : LoneK w0 gh P K w) (hx : x = kRedo) (c0 : w.cell? ⟨b, o, none⟩ = some (.string x)) (h0 : 0 < n) (hn : n ≤ 140737488355328) (hm : n ≠ 2) :
    Calls Tryz.prog 21 #[.pointer (some ⟨gd, 0, none⟩), .slice (some ⟨b, o, none⟩) n c] w fun e w' => e = .panicked (thrown 12) ∧ DeskTo w0 gh K w P w' := by
  have q1 : x.toList = [114, 101, 100, 111] := by rw [hx]; decide +kernel
  have q2 : ((n : Int) == 2) = false := by rw [beq_eq_false_iff_ne]; omega
  have q3 : ¬ (n : Int) = 2 := by omega
  have M := Lib.hid (must_no 12 (by decide))
  have S := Lib.hid (DeskTo.stay h (Below.refl _ _))
  clear hx h
  go_enter Tryz.func21, Tryz.ntmps21
  go_wp2_with fail
  refine (M.out _).mono ?_
  rintro e w3 ⟨rfl, rfl⟩
  exact ⟨rfl, rfl, S.out⟩

set_option maxRecDepth 100000 in
set_option maxHeartbeats 4000000 in
theorem deed_save_len (w0 w : World) (gh gd b o n c : Nat) (K : Nat → Prop) (P : List Pg) (x : ByteArray) (h : LoneK w0 gh P K w) (hx : x = kSave) (c0 : w.cell? ⟨b, o, none⟩ = some (.string x)) (h0 : 0 < n) (hn : n ≤ 140737488355328) (hm : n ≠ 2) :
    Calls Tryz.prog 21 #[.pointer (some ⟨gd, 0, none⟩), .slice (some ⟨b, o, none⟩) n c] w fun e w' => e = .panicked (thrown 12) ∧ DeskTo w0 gh K w P w' := by
  have q1 : x.toList = [115, 97, 118, 101] := by rw [hx]; decide +kernel
  have q2 : ((n : Int) == 2) = false := by rw [beq_eq_false_iff_ne]; omega
  have q3 : ¬ (n : Int) = 2 := by omega
  have M := Lib.hid (must_no 12 (by decide))
  have S := Lib.hid (DeskTo.stay h (Below.refl _ _))
  clear hx h
  go_enter Tryz.func21, Tryz.ntmps21
  go_wp2_with fail
  refine (M.out _).mono ?_
  rintro e w3 ⟨rfl, rfl⟩
  exact ⟨rfl, rfl, S.out⟩

set_option maxRecDepth 100000 in
set_option maxHeartbeats 4000000 in
theorem deed_pack_len (w0 w : World) (gh gd b o n c : Nat) (K : Nat → Prop) (P : List Pg) (x : ByteArray) (h : LoneK w0 gh P K w) (hx : x = kPack) (c0 : w.cell? ⟨b, o, none⟩ = some (.string x)) (h0 : 0 < n) (hn : n ≤ 140737488355328) (hm : n ≠ 3) :
    Calls Tryz.prog 21 #[.pointer (some ⟨gd, 0, none⟩), .slice (some ⟨b, o, none⟩) n c] w fun e w' => e = .panicked (thrown 12) ∧ DeskTo w0 gh K w P w' := by
  have q1 : x.toList = [112, 97, 99, 107] := by rw [hx]; decide +kernel
  have q2 : ((n : Int) == 3) = false := by rw [beq_eq_false_iff_ne]; omega
  have q3 : ¬ (n : Int) = 3 := by omega
  have M := Lib.hid (must_no 12 (by decide))
  have S := Lib.hid (DeskTo.stay h (Below.refl _ _))
  clear hx h
  go_enter Tryz.func21, Tryz.ntmps21
  go_wp2_with fail
  refine (M.out _).mono ?_
  rintro e w3 ⟨rfl, rfl⟩
  exact ⟨rfl, rfl, S.out⟩

set_option maxRecDepth 100000 in
set_option maxHeartbeats 4000000 in
theorem deed_crash_len (w0 w : World) (gh gd b o n c : Nat) (K : Nat → Prop) (P : List Pg) (x : ByteArray) (h : LoneK w0 gh P K w) (hx : x = kCrash) (c0 : w.cell? ⟨b, o, none⟩ = some (.string x)) (h0 : 0 < n) (hn : n ≤ 140737488355328) (hm : n ≠ 3) :
    Calls Tryz.prog 21 #[.pointer (some ⟨gd, 0, none⟩), .slice (some ⟨b, o, none⟩) n c] w fun e w' => e = .panicked (thrown 12) ∧ DeskTo w0 gh K w P w' := by
  have q1 : x.toList = [99, 114, 97, 115, 104] := by rw [hx]; decide +kernel
  have q2 : ((n : Int) == 3) = false := by rw [beq_eq_false_iff_ne]; omega
  have q3 : ¬ (n : Int) = 3 := by omega
  have M := Lib.hid (must_no 12 (by decide))
  have S := Lib.hid (DeskTo.stay h (Below.refl _ _))
  clear hx h
  go_enter Tryz.func21, Tryz.ntmps21
  go_wp2_with fail
  refine (M.out _).mono ?_
  rintro e w3 ⟨rfl, rfl⟩
  exact ⟨rfl, rfl, S.out⟩

set_option maxRecDepth 100000 in
set_option maxHeartbeats 4000000 in
theorem deed_text_len (w0 w : World) (gh gd b o n c : Nat) (K : Nat → Prop) (P : List Pg) (x : ByteArray) (h : LoneK w0 gh P K w) (hx : x = kText) (c0 : w.cell? ⟨b, o, none⟩ = some (.string x)) (h0 : 0 < n) (hn : n ≤ 140737488355328) (hm : n ≠ 2) :
    Calls Tryz.prog 21 #[.pointer (some ⟨gd, 0, none⟩), .slice (some ⟨b, o, none⟩) n c] w fun e w' => e = .panicked (thrown 12) ∧ DeskTo w0 gh K w P w' := by
  have q1 : x.toList = [116, 101, 120, 116] := by rw [hx]; decide +kernel
  have q2 : ((n : Int) == 2) = false := by rw [beq_eq_false_iff_ne]; omega
  have q3 : ¬ (n : Int) = 2 := by omega
  have M := Lib.hid (must_no 12 (by decide))
  have S := Lib.hid (DeskTo.stay h (Below.refl _ _))
  clear hx h
  go_enter Tryz.func21, Tryz.ntmps21
  go_wp2_with fail
  refine (M.out _).mono ?_
  rintro e w3 ⟨rfl, rfl⟩
  exact ⟨rfl, rfl, S.out⟩

set_option maxRecDepth 100000 in
set_option maxHeartbeats 4000000 in
theorem deed_drop_len (w0 w : World) (gh gd b o n c : Nat) (K : Nat → Prop) (P : List Pg) (x : ByteArray) (h : LoneK w0 gh P K w) (hx : x = kDrop) (c0 : w.cell? ⟨b, o, none⟩ = some (.string x)) (h0 : 0 < n) (hn : n ≤ 140737488355328) (hm : n ≠ 2) :
    Calls Tryz.prog 21 #[.pointer (some ⟨gd, 0, none⟩), .slice (some ⟨b, o, none⟩) n c] w fun e w' => e = .panicked (thrown 12) ∧ DeskTo w0 gh K w P w' := by
  have q1 : x.toList = [100, 114, 111, 112] := by rw [hx]; decide +kernel
  have q2 : ((n : Int) == 2) = false := by rw [beq_eq_false_iff_ne]; omega
  have q3 : ¬ (n : Int) = 2 := by omega
  have M := Lib.hid (must_no 12 (by decide))
  have S := Lib.hid (DeskTo.stay h (Below.refl _ _))
  clear hx h
  go_enter Tryz.func21, Tryz.ntmps21
  go_wp2_with fail
  refine (M.out _).mono ?_
  rintro e w3 ⟨rfl, rfl⟩
  exact ⟨rfl, rfl, S.out⟩
end Go.Proofs.YtaogegpfapfchaaGreatDoor

/- The walk of the desk's deed: words that are none. -/
namespace Go.Proofs.YtaogegpfapfchaaGreatDoor
open Go.RowKit
set_option linter.unusedVariables false

set_option maxRecDepth 100000 in
set_option maxHeartbeats 4000000 in
theorem deed_none (w0 w : World) (gh gd b o n c : Nat) (K : Nat → Prop) (P : List Pg) (x : ByteArray) (h : LoneK w0 gh P K w) (c0 : w.cell? ⟨b, o, none⟩ = some (.string x)) (h0 : 0 < n) (hn : n ≤ 140737488355328) (hNew : x ≠ kNew) (hEdit : x ≠ kEdit) (hCut : x ≠ kCut) (hMake : x ≠ kMake) (hUndo : x ≠ kUndo) (hRedo : x ≠ kRedo) (hSave : x ≠ kSave) (hPack : x ≠ kPack) (hCrash : x ≠ kCrash) (hText : x ≠ kText) (hDrop : x ≠ kDrop) :
    Calls Tryz.prog 21 #[.pointer (some ⟨gd, 0, none⟩), .slice (some ⟨b, o, none⟩) n c] w fun e w' => e = .returned (.tuple #[.string ⟨#[]⟩, .bool false]) ∧ DeskTo w0 gh K w P w' := by
  have qNew : (x.toList == ([110, 101, 119] : List UInt8)) = false := beq_eq_false_iff_ne.2 fun h => hNew (by rw [ByteArray.toList_eq] at h; exact str_ext h)
  have qEdit : (x.toList == ([101, 100, 105, 116] : List UInt8)) = false := beq_eq_false_iff_ne.2 fun h => hEdit (by rw [ByteArray.toList_eq] at h; exact str_ext h)
  have qCut : (x.toList == ([99, 117, 116] : List UInt8)) = false := beq_eq_false_iff_ne.2 fun h => hCut (by rw [ByteArray.toList_eq] at h; exact str_ext h)
  have qMake : (x.toList == ([109, 97, 107, 101] : List UInt8)) = false := beq_eq_false_iff_ne.2 fun h => hMake (by rw [ByteArray.toList_eq] at h; exact str_ext h)
  have qUndo : (x.toList == ([117, 110, 100, 111] : List UInt8)) = false := beq_eq_false_iff_ne.2 fun h => hUndo (by rw [ByteArray.toList_eq] at h; exact str_ext h)
  have qRedo : (x.toList == ([114, 101, 100, 111] : List UInt8)) = false := beq_eq_false_iff_ne.2 fun h => hRedo (by rw [ByteArray.toList_eq] at h; exact str_ext h)
  have qSave : (x.toList == ([115, 97, 118, 101] : List UInt8)) = false := beq_eq_false_iff_ne.2 fun h => hSave (by rw [ByteArray.toList_eq] at h; exact str_ext h)
  have qPack : (x.toList == ([112, 97, 99, 107] : List UInt8)) = false := beq_eq_false_iff_ne.2 fun h => hPack (by rw [ByteArray.toList_eq] at h; exact str_ext h)
  have qCrash : (x.toList == ([99, 114, 97, 115, 104] : List UInt8)) = false := beq_eq_false_iff_ne.2 fun h => hCrash (by rw [ByteArray.toList_eq] at h; exact str_ext h)
  have qText : (x.toList == ([116, 101, 120, 116] : List UInt8)) = false := beq_eq_false_iff_ne.2 fun h => hText (by rw [ByteArray.toList_eq] at h; exact str_ext h)
  have qDrop : (x.toList == ([100, 114, 111, 112] : List UInt8)) = false := beq_eq_false_iff_ne.2 fun h => hDrop (by rw [ByteArray.toList_eq] at h; exact str_ext h)
  have S := Lib.hid (DeskTo.stay h (Below.refl _ _))
  clear h hNew hEdit hCut hMake hUndo hRedo hSave hPack hCrash hText hDrop
  go_enter Tryz.func21, Tryz.ntmps21
  go_wp2
  go_ret2
  exact ⟨rfl, S.out⟩
end Go.Proofs.YtaogegpfapfchaaGreatDoor

/- The desk's deed, whatever the words are. -/
namespace Go.Proofs.YtaogegpfapfchaaGreatDoor
open Go.RowKit
set_option linter.unusedVariables false

theorem deedD_none {P : List Pg} {l : List ByteArray} (h : kindD (l.getD 0 ⟨#[]⟩) = none) : deedD P l = (.ok none, P) := by unfold deedD; rw [h]
theorem deedD_len {P : List Pg} {l : List ByteArray} {k m : Nat} (h : kindD (l.getD 0 ⟨#[]⟩) = some (k, m)) (hl : l.length ≠ m) : deedD P l = (.error 12, P) := by
  unfold deedD
  rw [h]
  show (if l.length ≠ m then _ else _) = _
  rw [if_pos hl]
theorem deedD_no {P : List Pg} {l : List ByteArray} {k m : Nat} (h : kindD (l.getD 0 ⟨#[]⟩) = some (k, m)) (hl : l.length = m) (hd : deedOf k l = none) : deedD P l = (.error 12, P) := by
  unfold deedD
  rw [h]
  show (if l.length ≠ m then _ else _) = _
  rw [if_neg (by simpa using hl), hd]
theorem deedD_yes {P : List Pg} {l : List ByteArray} {k m : Nat} {d : Dd} (h : kindD (l.getD 0 ⟨#[]⟩) = some (k, m)) (hl : l.length = m) (hd : deedOf k l = some d) : deedD P l = (doneD d.kind (houseD P d), (houseD P d).2.2) := by
  unfold deedD
  rw [h]
  show (if l.length ≠ m then _ else _) = _
  rw [if_neg (by simpa using hl), hd]
theorem kind_new : kindD kNew = some (1, 3) := by decide +kernel
theorem kind_edit : kindD kEdit = some (2, 5) := by decide +kernel
theorem kind_cut : kindD kCut = some (2, 4) := by decide +kernel
theorem kind_make : kindD kMake = some (10, 3) := by decide +kernel
theorem kind_undo : kindD kUndo = some (3, 2) := by decide +kernel
theorem kind_redo : kindD kRedo = some (4, 2) := by decide +kernel
theorem kind_save : kindD kSave = some (5, 2) := by decide +kernel
theorem kind_pack : kindD kPack = some (6, 3) := by decide +kernel
theorem kind_crash : kindD kCrash = some (7, 3) := by decide +kernel
theorem kind_text : kindD kText = some (8, 2) := by decide +kernel
theorem kind_drop : kindD kDrop = some (9, 2) := by decide +kernel

theorem deed_any (w0 w : World) (gh gd n c B : Nat) (A : Option Addr) (K : Nat → Prop) (P : List Pg) (l : List ByteArray) (h : LoneK w0 gh P K w) (ht : Tab w) (hd : Blk w gd 35 #[.pointer (some ⟨gh, 0, none⟩)]) (hK : K gd)
    (hl : l.length = n) (h0 : 0 < n) (hn : n ≤ 140737488355328) (hs : ∀ x ∈ l, x.size ≤ 140737488351232) (r : Reads w B A n 1 (l.flatMap cStr)) (hB : B ≤ w.heap.size) :
    Calls Tryz.prog 21 #[.pointer (some ⟨gd, 0, none⟩), .slice A n c] w fun e w' => e = deedEnd (deedD P l).1 ∧ DeskTo w0 gh K w (deedD P l).2 w' := by
  obtain ⟨b, o, rfl, hbB, _⟩ := r.2 (by omega)
  obtain ⟨_, hc⟩ := reads_cellsJ r hl (by omega)
  have hbs : b < w.heap.size := by omega
  have hg : ∀ j, j < n → w.cell? ⟨b, o + j, none⟩ = some (.string (l.getD j ⟨#[]⟩)) := fun j hj => hc j _ (by rw [List.getD_eq_getElem?_getD, List.getElem?_eq_getElem (by omega)]; rfl)
  have hz : ∀ j, (l.getD j ⟨#[]⟩).size ≤ 140737488351232 := fun j => by
    rw [List.getD_eq_getElem?_getD]
    cases ho : l[j]? with
    | none => exact (by decide : (0 : Nat) ≤ 140737488351232)
    | some x => exact hs x (List.mem_of_getElem? ho)
  have c0 : w.cell? ⟨b, o, none⟩ = some (.string (l.getD 0 ⟨#[]⟩)) := hg 0 (by omega)
  have c1 := fun h1 : 1 < n => hg 1 h1
  have c2 := fun h2 : 2 < n => hg 2 h2
  have c3 := fun h3 : 3 < n => hg 3 h3
  have c4 := fun h4 : 4 < n => hg 4 h4
  have z1 := hz 1
  have z2 := hz 2
  have z3 := hz 3
  have z4 := hz 4
  clear hg hc r hz hs
  by_cases kNew' : l.getD 0 ⟨#[]⟩ = kNew
  · have hk : kindD (l.getD 0 ⟨#[]⟩) = some (1, 3) := by rw [kNew']; exact kind_new
    by_cases hm : n = 3
    · subst hm
      have hdd : deedOf 1 l = some ⟨1, 0, l.getD 1 ⟨#[]⟩, l.getD 2 ⟨#[]⟩, []⟩ := by unfold deedOf; rw [if_pos (by decide)]; rfl
      rw [deedD_yes hk hl hdd]
      exact deed_new w0 w gh gd b o c K P _ _ _ h ht hd hK kNew' c0 (c1 (by decide)) (c2 (by decide)) hbs z1
    · rw [deedD_len hk (by omega)]
      exact deed_new_len w0 w gh gd b o n c K P _ h kNew' c0 h0 hn hm
  by_cases kEdit' : l.getD 0 ⟨#[]⟩ = kEdit
  · have hk : kindD (l.getD 0 ⟨#[]⟩) = some (2, 5) := by rw [kEdit']; exact kind_edit
    by_cases hm : n = 5
    · subst hm
      cases hu : numD (l.getD 2 ⟨#[]⟩) with
      | none =>
        have hdd : deedOf 2 l = none := by unfold deedOf; rw [if_neg (by decide), if_neg (by decide), if_pos rfl, hu]
        rw [deedD_no hk hl hdd]
        exact deed_edit_no w0 w gh gd b o c K P _ _ _ _ h kEdit' c0 (c1 (by decide)) (c2 (by decide)) (c3 (by decide)) hbs z2 z3 (.inl hu)
      | some u =>
        cases hv : numD (l.getD 3 ⟨#[]⟩) with
        | none =>
          have hdd : deedOf 2 l = none := by unfold deedOf; rw [if_neg (by decide), if_neg (by decide), if_pos rfl, hu, hv]
          rw [deedD_no hk hl hdd]
          exact deed_edit_no w0 w gh gd b o c K P _ _ _ _ h kEdit' c0 (c1 (by decide)) (c2 (by decide)) (c3 (by decide)) hbs z2 z3 (.inr hv)
        | some v =>
          have hdd : deedOf 2 l = some ⟨2, 0, l.getD 1 ⟨#[]⟩, ⟨#[]⟩, [((u : Int), (v : Int), l.getD 4 ⟨#[]⟩)]⟩ := by
            unfold deedOf; rw [if_neg (by decide), if_neg (by decide), if_pos rfl, hu, hv]
            show some (_ : Dd) = _
            rw [if_pos hl]
            rfl
          rw [deedD_yes hk hl hdd]
          exact deed_edit w0 w gh gd b o c K P _ _ _ _ _ h ht hd hK kEdit' c0 (c1 (by decide)) (c2 (by decide)) (c3 (by decide)) (c4 (by decide)) hbs u v z2 z3 z4 hu hv z1
    · rw [deedD_len hk (by omega)]
      exact deed_edit_len w0 w gh gd b o n c K P _ h kEdit' c0 h0 hn hm
  by_cases kCut' : l.getD 0 ⟨#[]⟩ = kCut
  · have hk : kindD (l.getD 0 ⟨#[]⟩) = some (2, 4) := by rw [kCut']; exact kind_cut
    by_cases hm : n = 4
    · subst hm
      cases hu : numD (l.getD 2 ⟨#[]⟩) with
      | none =>
        have hdd : deedOf 2 l = none := by unfold deedOf; rw [if_neg (by decide), if_neg (by decide), if_pos rfl, hu]
        rw [deedD_no hk hl hdd]
        exact deed_cut_no w0 w gh gd b o c K P _ _ _ _ h kCut' c0 (c1 (by decide)) (c2 (by decide)) (c3 (by decide)) hbs z2 z3 (.inl hu)
      | some u =>
        cases hv : numD (l.getD 3 ⟨#[]⟩) with
        | none =>
          have hdd : deedOf 2 l = none := by unfold deedOf; rw [if_neg (by decide), if_neg (by decide), if_pos rfl, hu, hv]
          rw [deedD_no hk hl hdd]
          exact deed_cut_no w0 w gh gd b o c K P _ _ _ _ h kCut' c0 (c1 (by decide)) (c2 (by decide)) (c3 (by decide)) hbs z2 z3 (.inr hv)
        | some v =>
          have hdd : deedOf 2 l = some ⟨2, 0, l.getD 1 ⟨#[]⟩, ⟨#[]⟩, [((u : Int), (v : Int), ⟨#[]⟩)]⟩ := by
            unfold deedOf; rw [if_neg (by decide), if_neg (by decide), if_pos rfl, hu, hv]
            show some (_ : Dd) = _
            rw [if_neg (by omega)]
            rfl
          rw [deedD_yes hk hl hdd]
          exact deed_cut w0 w gh gd b o c K P _ _ _ _ h ht hd hK kCut' c0 (c1 (by decide)) (c2 (by decide)) (c3 (by decide)) hbs u v z2 z3 hu hv z1
    · rw [deedD_len hk (by omega)]
      exact deed_cut_len w0 w gh gd b o n c K P _ h kCut' c0 h0 hn hm
  by_cases kMake' : l.getD 0 ⟨#[]⟩ = kMake
  · have hk : kindD (l.getD 0 ⟨#[]⟩) = some (10, 3) := by rw [kMake']; exact kind_make
    by_cases hm : n = 3
    · subst hm
      have hdd : deedOf 10 l = some ⟨10, 0, l.getD 1 ⟨#[]⟩, l.getD 2 ⟨#[]⟩, []⟩ := by unfold deedOf; rw [if_pos (by decide)]; rfl
      rw [deedD_yes hk hl hdd]
      exact deed_make w0 w gh gd b o c K P _ _ _ h ht hd hK kMake' c0 (c1 (by decide)) (c2 (by decide)) hbs z1
    · rw [deedD_len hk (by omega)]
      exact deed_make_len w0 w gh gd b o n c K P _ h kMake' c0 h0 hn hm
  by_cases kUndo' : l.getD 0 ⟨#[]⟩ = kUndo
  · have hk : kindD (l.getD 0 ⟨#[]⟩) = some (3, 2) := by rw [kUndo']; exact kind_undo
    by_cases hm : n = 2
    · subst hm
      have hdd : deedOf 3 l = some ⟨3, 0, l.getD 1 ⟨#[]⟩, ⟨#[]⟩, []⟩ := by unfold deedOf; rw [if_neg (by decide), if_neg (by decide), if_neg (by decide)]; rfl
      rw [deedD_yes hk hl hdd]
      exact deed_undo w0 w gh gd b o c K P _ _ h ht hd hK kUndo' c0 (c1 (by decide)) z1
    · rw [deedD_len hk (by omega)]
      exact deed_undo_len w0 w gh gd b o n c K P _ h kUndo' c0 h0 hn hm
  by_cases kRedo' : l.getD 0 ⟨#[]⟩ = kRedo
  · have hk : kindD (l.getD 0 ⟨#[]⟩) = some (4, 2) := by rw [kRedo']; exact kind_redo
    by_cases hm : n = 2
    · subst hm
      have hdd : deedOf 4 l = some ⟨4, 0, l.getD 1 ⟨#[]⟩, ⟨#[]⟩, []⟩ := by unfold deedOf; rw [if_neg (by decide), if_neg (by decide), if_neg (by decide)]; rfl
      rw [deedD_yes hk hl hdd]
      exact deed_redo w0 w gh gd b o c K P _ _ h ht hd hK kRedo' c0 (c1 (by decide)) z1
    · rw [deedD_len hk (by omega)]
      exact deed_redo_len w0 w gh gd b o n c K P _ h kRedo' c0 h0 hn hm
  by_cases kSave' : l.getD 0 ⟨#[]⟩ = kSave
  · have hk : kindD (l.getD 0 ⟨#[]⟩) = some (5, 2) := by rw [kSave']; exact kind_save
    by_cases hm : n = 2
    · subst hm
      have hdd : deedOf 5 l = some ⟨5, 0, l.getD 1 ⟨#[]⟩, ⟨#[]⟩, []⟩ := by unfold deedOf; rw [if_neg (by decide), if_neg (by decide), if_neg (by decide)]; rfl
      rw [deedD_yes hk hl hdd]
      exact deed_save w0 w gh gd b o c K P _ _ h ht hd hK kSave' c0 (c1 (by decide)) z1
    · rw [deedD_len hk (by omega)]
      exact deed_save_len w0 w gh gd b o n c K P _ h kSave' c0 h0 hn hm
  by_cases kPack' : l.getD 0 ⟨#[]⟩ = kPack
  · have hk : kindD (l.getD 0 ⟨#[]⟩) = some (6, 3) := by rw [kPack']; exact kind_pack
    by_cases hm : n = 3
    · subst hm
      cases hv : numD (l.getD 2 ⟨#[]⟩) with
      | none =>
        have hdd : deedOf 6 l = none := by unfold deedOf; rw [if_neg (by decide), if_pos (by decide), hv]; rfl
        rw [deedD_no hk hl hdd]
        exact deed_pack_no w0 w gh gd b o c K P _ _ _ h kPack' c0 (c1 (by decide)) (c2 (by decide)) hbs z2 hv
      | some v =>
        have hdd : deedOf 6 l = some ⟨6, (v : Int), l.getD 1 ⟨#[]⟩, ⟨#[]⟩, []⟩ := by unfold deedOf; rw [if_neg (by decide), if_pos (by decide), hv]; rfl
        rw [deedD_yes hk hl hdd]
        exact deed_pack w0 w gh gd b o c K P _ _ _ h ht hd hK kPack' c0 (c1 (by decide)) (c2 (by decide)) hbs v z2 hv z1
    · rw [deedD_len hk (by omega)]
      exact deed_pack_len w0 w gh gd b o n c K P _ h kPack' c0 h0 hn hm
  by_cases kCrash' : l.getD 0 ⟨#[]⟩ = kCrash
  · have hk : kindD (l.getD 0 ⟨#[]⟩) = some (7, 3) := by rw [kCrash']; exact kind_crash
    by_cases hm : n = 3
    · subst hm
      cases hv : numD (l.getD 2 ⟨#[]⟩) with
      | none =>
        have hdd : deedOf 7 l = none := by unfold deedOf; rw [if_neg (by decide), if_pos (by decide), hv]; rfl
        rw [deedD_no hk hl hdd]
        exact deed_crash_no w0 w gh gd b o c K P _ _ _ h kCrash' c0 (c1 (by decide)) (c2 (by decide)) hbs z2 hv
      | some v =>
        have hdd : deedOf 7 l = some ⟨7, (v : Int), l.getD 1 ⟨#[]⟩, ⟨#[]⟩, []⟩ := by unfold deedOf; rw [if_neg (by decide), if_pos (by decide), hv]; rfl
        rw [deedD_yes hk hl hdd]
        exact deed_crash w0 w gh gd b o c K P _ _ _ h ht hd hK kCrash' c0 (c1 (by decide)) (c2 (by decide)) hbs v z2 hv z1
    · rw [deedD_len hk (by omega)]
      exact deed_crash_len w0 w gh gd b o n c K P _ h kCrash' c0 h0 hn hm
  by_cases kText' : l.getD 0 ⟨#[]⟩ = kText
  · have hk : kindD (l.getD 0 ⟨#[]⟩) = some (8, 2) := by rw [kText']; exact kind_text
    by_cases hm : n = 2
    · subst hm
      have hdd : deedOf 8 l = some ⟨8, 0, l.getD 1 ⟨#[]⟩, ⟨#[]⟩, []⟩ := by unfold deedOf; rw [if_neg (by decide), if_neg (by decide), if_neg (by decide)]; rfl
      rw [deedD_yes hk hl hdd]
      exact deed_text w0 w gh gd b o c K P _ _ h ht hd hK kText' c0 (c1 (by decide)) z1
    · rw [deedD_len hk (by omega)]
      exact deed_text_len w0 w gh gd b o n c K P _ h kText' c0 h0 hn hm
  by_cases kDrop' : l.getD 0 ⟨#[]⟩ = kDrop
  · have hk : kindD (l.getD 0 ⟨#[]⟩) = some (9, 2) := by rw [kDrop']; exact kind_drop
    by_cases hm : n = 2
    · subst hm
      have hdd : deedOf 9 l = some ⟨9, 0, l.getD 1 ⟨#[]⟩, ⟨#[]⟩, []⟩ := by unfold deedOf; rw [if_neg (by decide), if_neg (by decide), if_neg (by decide)]; rfl
      rw [deedD_yes hk hl hdd]
      exact deed_drop w0 w gh gd b o c K P _ _ h ht hd hK kDrop' c0 (c1 (by decide)) z1
    · rw [deedD_len hk (by omega)]
      exact deed_drop_len w0 w gh gd b o n c K P _ h kDrop' c0 h0 hn hm
  have hk : kindD (l.getD 0 ⟨#[]⟩) = none := by
    unfold kindD
    rw [if_neg kNew', if_neg kEdit', if_neg kCut', if_neg kMake', if_neg kUndo', if_neg kRedo', if_neg kSave', if_neg kPack', if_neg kCrash', if_neg kText', if_neg kDrop']
  rw [deedD_none hk]
  exact deed_none w0 w gh gd b o n c K P _ h c0 h0 hn kNew' kEdit' kCut' kMake' kUndo' kRedo' kSave' kPack' kCrash' kText' kDrop'
end Go.Proofs.YtaogegpfapfchaaGreatDoor

/- Plain: a text cut at a byte. -/
namespace Go.Proofs.YtaogegpfapfchaaGreatDoor
open Go.RowKit
set_option linter.unusedVariables false

/-- A text cut at each byte c. -/
def cutL (c : UInt8) : List UInt8 → List (List UInt8)
  | [] => [[]]
  | b :: l => if b = c then [] :: cutL c l else (b :: (cutL c l).headD []) :: (cutL c l).tail
theorem cutL_ne (c : UInt8) (l : List UInt8) : cutL c l ≠ [] := by
  cases l with
  | nil => simp [cutL]
  | cons b l => rw [cutL]; split <;> simp
theorem cutL_cons (c : UInt8) (l : List UInt8) : cutL c l = (cutL c l).headD [] :: (cutL c l).tail := by
  have h := cutL_ne c l
  generalize cutL c l = x at *
  cases x with
  | nil => exact absurd rfl h
  | cons a x => rfl
theorem cutL_app (c : UInt8) : ∀ (x y : List UInt8), cutL c (x ++ c :: y) = cutL c x ++ cutL c y
  | [], y => by simp [cutL]
  | b :: x, y => by
    have ih := cutL_app c x y
    have e := cutL_cons c x
    by_cases h : b = c
    · rw [List.cons_append, cutL, if_pos h, cutL, if_pos h, ih]; rfl
    · rw [List.cons_append, cutL, if_neg h, cutL, if_neg h, ih]
      rw [e]; rfl
theorem cutL_clean (c : UInt8) : ∀ (l : List UInt8), ∀ p ∈ cutL c l, c ∉ p
  | [], p, hp => by
    have : p = [] := by simpa [cutL] using hp
    rw [this]; exact List.not_mem_nil
  | b :: l, p, hp => by
    have ih := cutL_clean c l
    have e := cutL_cons c l
    rw [cutL] at hp
    split at hp
    · rcases List.mem_cons.1 hp with rfl | hp
      · exact List.not_mem_nil
      · exact ih p hp
    · rename_i h
      rcases List.mem_cons.1 hp with rfl | hp
      · intro hm
        rcases List.mem_cons.1 hm with h2 | h2
        · exact h h2.symm
        · exact ih ((cutL c l).headD []) (by rw [e]; exact List.mem_cons_self ..) h2
      · exact ih p (by rw [e]; exact List.mem_cons_of_mem _ hp)
/-- Nothing but bytes of the text. -/
theorem cutL_sub (c : UInt8) : ∀ (l : List UInt8), ∀ p ∈ cutL c l, ∀ b ∈ p, b ∈ l
  | [], p, hp => by
    have : p = [] := by simpa [cutL] using hp
    rw [this]; exact fun b hb => hb
  | x :: l, p, hp => by
    have ih := cutL_sub c l
    have e := cutL_cons c l
    rw [cutL] at hp
    intro b hb
    split at hp
    · rcases List.mem_cons.1 hp with rfl | hp
      · cases hb
      · exact List.mem_cons_of_mem _ (ih p hp b hb)
    · rcases List.mem_cons.1 hp with rfl | hp
      · rcases List.mem_cons.1 hb with rfl | hb
        · exact List.mem_cons_self ..
        · exact List.mem_cons_of_mem _ (ih ((cutL c l).headD []) (by rw [e]; exact List.mem_cons_self ..) b hb)
      · exact List.mem_cons_of_mem _ (ih p (by rw [e]; exact List.mem_cons_of_mem _ hp) b hb)
theorem cutL_len (c : UInt8) : ∀ (l : List UInt8), (cutL c l).length = l.count c + 1 ∧ ∀ p ∈ cutL c l, p.length ≤ l.length
  | [] => ⟨rfl, fun p hp => by have : p = [] := by simpa [cutL] using hp
                               rw [this]; exact Nat.le_refl _⟩
  | b :: l => by
    obtain ⟨h1, h2⟩ := cutL_len c l
    have e := cutL_cons c l
    rw [cutL]
    by_cases h : b = c
    · rw [if_pos h, List.length_cons, h1, h, List.count_cons_self]
      refine ⟨rfl, fun p hp => ?_⟩
      rcases List.mem_cons.1 hp with rfl | hp
      · exact Nat.zero_le _
      · exact Nat.le_succ_of_le (h2 p hp)
    · rw [if_neg h, List.count_cons_of_ne (by simpa using h), ← h1]
      refine ⟨by rw [List.length_cons]; conv => rhs; rw [e, List.length_cons], fun p hp => ?_⟩
      rcases List.mem_cons.1 hp with rfl | hp
      · rw [List.length_cons, List.length_cons]
        exact Nat.succ_le_succ (h2 _ (by rw [e]; exact List.mem_cons_self ..))
      · exact Nat.le_succ_of_le (h2 p (by rw [e]; exact List.mem_cons_of_mem _ hp))
theorem cutL_none (c : UInt8) : ∀ (l : List UInt8), c ∉ l → cutL c l = [l]
  | [], _ => rfl
  | b :: l, h => by
    rw [cutL, if_neg (fun e => h (by rw [e]; exact List.mem_cons_self ..)), cutL_none c l fun hm => h (List.mem_cons_of_mem _ hm)]
    rfl
theorem split_cut (c : UInt8) : ∀ (s : List UInt8), Lib.splitK [c] 0 (Lib.count s [c]) s = cutL c s
  | [] => by rw [Lib.count_one]; rfl
  | b :: l => by
    have ih := split_cut c l
    rw [cutL]
    by_cases h : b = c
    · subst h
      have hix : Lib.index (b :: l) [b] = 0 := by rw [Lib.index]; simp [List.isPrefixOf]
      rw [if_pos rfl, Lib.count_cons_eq, Nat.add_comm 1, Lib.splitK, hix]
      simpa using ih
    · have hp : ([c] : List UInt8).isPrefixOf (b :: l) = false := by simp [List.isPrefixOf, Ne.symm h]
      have hix : Lib.index (b :: l) [c] = if Lib.index l [c] == -1 then -1 else Lib.index l [c] + 1 := by rw [Lib.index, hp]; simp
      rw [if_neg h, Lib.count_cons_ne b c l h, ← ih]
      by_cases hm : Lib.index l [c] = -1
      · have hc : Lib.count l [c] = 0 := Lib.count_miss hm
        rw [hc]; rfl
      · have hge := Lib.index_ge l [c]
        obtain ⟨j, hj⟩ : ∃ j : Nat, Lib.index l [c] = j := ⟨(Lib.index l [c]).toNat, by omega⟩
        have hix' : Lib.index (b :: l) [c] = ((j + 1 : Nat) : Int) := by rw [hix, if_neg (fun e => hm (beq_iff_eq.1 e)), hj]; omega
        rw [Lib.count_hit (by simp) hj, Nat.add_comm 1, Lib.splitK, Lib.splitK, hix', hj, if_neg (by simp; omega), if_neg (by simp)]
        simp
/-- strings.Split at one byte. -/
theorem splitB_cut (c : UInt8) (s : ByteArray) : Lib.splitB ⟨#[c]⟩ 0 (Lib.countB s ⟨#[c]⟩) s = (cutL c s.data.toList).map tx := by
  have h := Lib.splitB_data ⟨#[c]⟩ 0 (Lib.countB s ⟨#[c]⟩) s
  have e : Lib.splitK [c] 0 (Lib.countB s ⟨#[c]⟩) s.data.toList = cutL c s.data.toList := split_cut c s.data.toList
  rw [show (⟨#[c]⟩ : ByteArray).data.toList = [c] from rfl, e] at h
  rw [← h, List.map_map]
  conv => lhs; rw [← List.map_id (Lib.splitB _ _ _ _)]
  rfl
end Go.Proofs.YtaogegpfapfchaaGreatDoor

/- The names of a house, and a new house, for the desk. -/
namespace Go.Proofs.YtaogegpfapfchaaGreatDoor
open Go.RowKit Go.Lib
set_option linter.unusedVariables false

/-- The names of pages, sorted, as strings. -/
def namesB (P : List Pg) : List ByteArray := (namesP P).map fun z => ⟨z.toArray⟩
theorem namesB_len (P : List Pg) : (namesB P).length = P.length := by unfold namesB namesP; rw [List.length_map, List.length_mergeSort, List.length_map]
theorem names_cells : ∀ (l : List (List UInt8)), l.map encStr = (l.map fun z => (⟨z.toArray⟩ : ByteArray)).flatMap cStr
  | [] => rfl
  | x :: l => by rw [List.map_cons, List.map_cons, List.flatMap_cons, names_cells l]; rfl
theorem names_lone {w0 w : World} {gh : Nat} {P : List Pg} (h : Lone w0 gh P w) :
    Calls Tryz.prog 20 #[.pointer (some ⟨gh, 0, none⟩)] w fun e w' => ∃ A c, e = .returned (.slice A P.length c) ∧ OwnK 9 1 w' (· < w.heap.size) A P.length c ((namesB P).flatMap cStr) ∧ Below w.heap.size w w' := by
  obtain ⟨own, Q, h⟩ := h
  have hl : Q.length = P.length := by rw [← h.pages, List.length_map]
  refine (names_any own w gh Q h.house h.few).mono fun e w' ⟨A, c, he, hr, hb⟩ => ?_
  rw [h.pages, names_cells] at hr
  rw [hl] at he hr
  exact ⟨A, c, he, hr, hb⟩
/-- A new house. -/
theorem new_law {own : Nat → Nat} {w : World} (hb : Based own w) :
    Calls Tryz.prog 11 #[] w fun e w' => e = .returned (.pointer (some ⟨w.heap.size, 0, none⟩)) ∧ ∃ own', InLaw w own' w' w.heap.size [] [] ∧ ∀ k, k < w.heap.size → own' k = own k := by
  refine (newHouse own w).mono fun e w' ⟨he, hh, hbl⟩ => ⟨he, _, ⟨hbl, hh, rfl, HOk.nil, fun k hk => ?_, fun k hk => ?_, fun i hi => ?_⟩, fun k hk => updO_lt own hk⟩
  · by_cases h : k < w.heap.size
    · rw [updO_lt own h]; exact Nat.lt_of_lt_of_le (hb k h) hbl.size
    · rw [updO_ge own (by omega)]
      have := hh.lt w.heap.size (List.mem_cons_self ..)
      exact this
  · rw [updO_lt own hk]; exact hb k hk
  · rcases List.mem_cons.1 hi with rfl | h
    · exact Nat.le_refl _
    · cases h
theorem LoneK.new {w : World} : Calls Tryz.prog 11 #[] w fun e w' => e = .returned (.pointer (some ⟨w.heap.size, 0, none⟩)) ∧ LoneK w w.heap.size [] (· < w.heap.size) w' :=
  (new_law (own := fun k => k) (w := w) fun k hk => hk).mono fun e w' ⟨he, own', h, _⟩ => ⟨he, LoneK.of ⟨own', [], h⟩⟩
end Go.Proofs.YtaogegpfapfchaaGreatDoor

