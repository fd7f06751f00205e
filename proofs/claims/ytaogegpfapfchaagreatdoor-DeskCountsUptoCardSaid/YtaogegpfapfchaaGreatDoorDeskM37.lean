import Derived.Test.YtaogegpfapfchaaGreatDoorDeskM36
/- Several texts in one: XDeskTwo. -/
/- The walk of the desk's deed: two words. -/
namespace Go.Proofs.YtaogegpfapfchaaGreatDoor
open Go.RowKit
set_option linter.unusedVariables false

set_option maxRecDepth 100000 in
set_option maxHeartbeats 4000000 in
theorem deed_undo (w0 w : World) (gh gd b o c : Nat) (K : Nat → Prop) (P : List Pg) (x y : ByteArray) (h : LoneK w0 gh P K w) (ht : Tab w) (hd : Blk w gd 35 #[.pointer (some ⟨gh, 0, none⟩)]) (hK : K gd)
    (hx : x = kUndo) (c0 : w.cell? ⟨b, o, none⟩ = some (.string x)) (c1 : w.cell? ⟨b, o + 1, none⟩ = some (.string y)) (hy : y.size ≤ 140737488351232) :
    Calls Tryz.prog 21 #[.pointer (some ⟨gd, 0, none⟩), .slice (some ⟨b, o, none⟩) 2 c] w fun e w' => e = deedEnd (doneD 3 (houseD P ⟨3, 0, y, ⟨#[]⟩, []⟩)) ∧ DeskTo w0 gh K w (houseD P ⟨3, 0, y, ⟨#[]⟩, []⟩).2.2 w' := by
  have q1 : x.toList = [117, 110, 100, 111] := by rw [hx]; decide +kernel
  obtain ⟨⟨e0, e1⟩, hT⟩ := houseD_bd P ⟨3, 0, y, ⟨#[]⟩, []⟩ h.lone.pg
  have D := Lib.hid (fun w1 hb => do_desk (w1 := w1) h hb ht ⟨3, 0, y, ⟨#[]⟩, []⟩ none 0 (deedAt_one w1 3 0 y ⟨#[]⟩ hy (by first | decide | (have := numD_le hv; omega))))
  have hlt := hd.lt
  have d0 := hd.cell 0
  have bd : ∀ w, (Instr.build 70 #[(0, .int .i64 3), (2, .string y)]).run Tryz.prog w = .ok (.agg #[.int .i64 3, .int .i64 0, .string y, .string ⟨#[]⟩, .slice none 0 0]) w := fun w => run_build w 70 _ _ (by kernel_rfl)
  clear hx h ht hd
  generalize hR : houseD P ⟨3, 0, y, ⟨#[]⟩, []⟩ = R at *
  obtain ⟨T, E, P'⟩ := R
  simp only at e0 e1 hT D ⊢
  have HR := Lib.hid hR
  clear hR
  have a1 : ∀ w, (Op.stringOp .add ⟨#[58]⟩ T).run Tryz.prog w = .ok (.string (⟨#[58]⟩ ++ T)) w := fun w => run_string_add_sum w _ _ (by show 1 + _ ≤ _; omega)
  go_enter Tryz.func21, Tryz.ntmps21
  go_wp2
  obtain ⟨wa, hwa⟩ : ∃ wa, wa = w.alloc (Obj.cells #[.int .i64 3, .int .i64 0, .string y, .string ⟨#[]⟩, .slice none 0 0] 70) := ⟨_, rfl⟩
  have hba : Below w.heap.size w wa := by rw [hwa]; exact (Below.refl _ _).alloc (Nat.le_refl _) _
  have hsz : w.heap.size ≤ w.heap.size ∧ w.heap.size < wa.heap.size := by rw [hwa]; simp
  have hbx : Blk wa w.heap.size 70 #[.int .i64 3, .int .i64 0, .string y, .string ⟨#[]⟩, .slice none 0 0] := by rw [hwa]; exact Blk.new w _ _
  rw [← hwa]
  clear hwa
  have x0 := hbx.cell 0
  have x1 := hbx.cell 1
  have x2 := hbx.cell 2
  have x3 := hbx.cell 3
  have x4 := hbx.cell 4
  have dw := d0
  have d0 : wa.cell? ⟨gd, 0, none⟩ = some (.pointer (some ⟨gh, 0, none⟩)) := by rw [hba.cell hlt]; exact d0
  have D2 := D.out wa.drew hba.drew
  rw [show cDeed ⟨3, 0, y, ⟨#[]⟩, []⟩ none 0 = #[.int .i64 3, .int .i64 0, .string y, .string ⟨#[]⟩, .slice none 0 0] from rfl] at D2
  have D2 := Lib.hid D2
  go_region_held3 (fun w' => w'.cell? ⟨gd, 0, none⟩ = some (.pointer (some ⟨gh, 0, none⟩)) ∧ w'.cell? ⟨w.heap.size, 0, none⟩ = some (.int .i64 3) ∧ w'.cell? ⟨w.heap.size, 1, none⟩ = some (.int .i64 0) ∧ w'.cell? ⟨w.heap.size, 2, none⟩ = some (.string y) ∧ w'.cell? ⟨w.heap.size, 3, none⟩ = some (.string ⟨#[]⟩) ∧ w'.cell? ⟨w.heap.size, 4, none⟩ = some (.slice none 0 0)) (first | exact ⟨d0, x0, x1, x2, x3, x4⟩ | assumption)
    ((first | (go_at_call 32; (with_reducible refine D2.out.mono ?_); rintro e w2 ⟨rfl, hd2, hk2⟩; have hs := deed_back hd2 hk2 hK hsz dw hbx)))
  all_goals
    clear hs D D2 hk2 x0 x1 x2 x3 x4 hbx hba
    by_cases hE : E = 0
    · subst hE
      have M := Lib.hid must_ok
      go_wp2_with fail
      refine (M.out _).mono ?_
      rintro e w3 ⟨rfl, rfl⟩
      go_wp2
      go_ret2
      exact ⟨by rw [doneD_ok rfl]; rfl, hd2⟩
    · have M := Lib.hid (must_no E hE)
      go_wp2_with fail
      refine (M.out _).mono ?_
      rintro e w3 ⟨rfl, rfl⟩
      refine ⟨rfl, ?_, hd2⟩
      rw [doneD_no hE]
      show _ = Ending.panicked (thrown (E.toNat : Int))
      rw [Int.toNat_of_nonneg e0]

set_option maxRecDepth 100000 in
set_option maxHeartbeats 4000000 in
theorem deed_redo (w0 w : World) (gh gd b o c : Nat) (K : Nat → Prop) (P : List Pg) (x y : ByteArray) (h : LoneK w0 gh P K w) (ht : Tab w) (hd : Blk w gd 35 #[.pointer (some ⟨gh, 0, none⟩)]) (hK : K gd)
    (hx : x = kRedo) (c0 : w.cell? ⟨b, o, none⟩ = some (.string x)) (c1 : w.cell? ⟨b, o + 1, none⟩ = some (.string y)) (hy : y.size ≤ 140737488351232) :
    Calls Tryz.prog 21 #[.pointer (some ⟨gd, 0, none⟩), .slice (some ⟨b, o, none⟩) 2 c] w fun e w' => e = deedEnd (doneD 4 (houseD P ⟨4, 0, y, ⟨#[]⟩, []⟩)) ∧ DeskTo w0 gh K w (houseD P ⟨4, 0, y, ⟨#[]⟩, []⟩).2.2 w' := by
  have q1 : x.toList = [114, 101, 100, 111] := by rw [hx]; decide +kernel
  obtain ⟨⟨e0, e1⟩, hT⟩ := houseD_bd P ⟨4, 0, y, ⟨#[]⟩, []⟩ h.lone.pg
  have D := Lib.hid (fun w1 hb => do_desk (w1 := w1) h hb ht ⟨4, 0, y, ⟨#[]⟩, []⟩ none 0 (deedAt_one w1 4 0 y ⟨#[]⟩ hy (by first | decide | (have := numD_le hv; omega))))
  have hlt := hd.lt
  have d0 := hd.cell 0
  have bd : ∀ w, (Instr.build 70 #[(0, .int .i64 4), (2, .string y)]).run Tryz.prog w = .ok (.agg #[.int .i64 4, .int .i64 0, .string y, .string ⟨#[]⟩, .slice none 0 0]) w := fun w => run_build w 70 _ _ (by kernel_rfl)
  clear hx h ht hd
  generalize hR : houseD P ⟨4, 0, y, ⟨#[]⟩, []⟩ = R at *
  obtain ⟨T, E, P'⟩ := R
  simp only at e0 e1 hT D ⊢
  have HR := Lib.hid hR
  clear hR
  have a1 : ∀ w, (Op.stringOp .add ⟨#[58]⟩ T).run Tryz.prog w = .ok (.string (⟨#[58]⟩ ++ T)) w := fun w => run_string_add_sum w _ _ (by show 1 + _ ≤ _; omega)
  go_enter Tryz.func21, Tryz.ntmps21
  go_wp2
  obtain ⟨wa, hwa⟩ : ∃ wa, wa = w.alloc (Obj.cells #[.int .i64 4, .int .i64 0, .string y, .string ⟨#[]⟩, .slice none 0 0] 70) := ⟨_, rfl⟩
  have hba : Below w.heap.size w wa := by rw [hwa]; exact (Below.refl _ _).alloc (Nat.le_refl _) _
  have hsz : w.heap.size ≤ w.heap.size ∧ w.heap.size < wa.heap.size := by rw [hwa]; simp
  have hbx : Blk wa w.heap.size 70 #[.int .i64 4, .int .i64 0, .string y, .string ⟨#[]⟩, .slice none 0 0] := by rw [hwa]; exact Blk.new w _ _
  rw [← hwa]
  clear hwa
  have x0 := hbx.cell 0
  have x1 := hbx.cell 1
  have x2 := hbx.cell 2
  have x3 := hbx.cell 3
  have x4 := hbx.cell 4
  have dw := d0
  have d0 : wa.cell? ⟨gd, 0, none⟩ = some (.pointer (some ⟨gh, 0, none⟩)) := by rw [hba.cell hlt]; exact d0
  have D2 := D.out wa.drew hba.drew
  rw [show cDeed ⟨4, 0, y, ⟨#[]⟩, []⟩ none 0 = #[.int .i64 4, .int .i64 0, .string y, .string ⟨#[]⟩, .slice none 0 0] from rfl] at D2
  have D2 := Lib.hid D2
  go_region_held3 (fun w' => w'.cell? ⟨gd, 0, none⟩ = some (.pointer (some ⟨gh, 0, none⟩)) ∧ w'.cell? ⟨w.heap.size, 0, none⟩ = some (.int .i64 4) ∧ w'.cell? ⟨w.heap.size, 1, none⟩ = some (.int .i64 0) ∧ w'.cell? ⟨w.heap.size, 2, none⟩ = some (.string y) ∧ w'.cell? ⟨w.heap.size, 3, none⟩ = some (.string ⟨#[]⟩) ∧ w'.cell? ⟨w.heap.size, 4, none⟩ = some (.slice none 0 0)) (first | exact ⟨d0, x0, x1, x2, x3, x4⟩ | assumption)
    ((first | (go_at_call 32; (with_reducible refine D2.out.mono ?_); rintro e w2 ⟨rfl, hd2, hk2⟩; have hs := deed_back hd2 hk2 hK hsz dw hbx)))
  all_goals
    clear hs D D2 hk2 x0 x1 x2 x3 x4 hbx hba
    by_cases hE : E = 0
    · subst hE
      have M := Lib.hid must_ok
      go_wp2_with fail
      refine (M.out _).mono ?_
      rintro e w3 ⟨rfl, rfl⟩
      go_wp2
      go_ret2
      exact ⟨by rw [doneD_ok rfl]; rfl, hd2⟩
    · have M := Lib.hid (must_no E hE)
      go_wp2_with fail
      refine (M.out _).mono ?_
      rintro e w3 ⟨rfl, rfl⟩
      refine ⟨rfl, ?_, hd2⟩
      rw [doneD_no hE]
      show _ = Ending.panicked (thrown (E.toNat : Int))
      rw [Int.toNat_of_nonneg e0]

set_option maxRecDepth 100000 in
set_option maxHeartbeats 4000000 in
theorem deed_save (w0 w : World) (gh gd b o c : Nat) (K : Nat → Prop) (P : List Pg) (x y : ByteArray) (h : LoneK w0 gh P K w) (ht : Tab w) (hd : Blk w gd 35 #[.pointer (some ⟨gh, 0, none⟩)]) (hK : K gd)
    (hx : x = kSave) (c0 : w.cell? ⟨b, o, none⟩ = some (.string x)) (c1 : w.cell? ⟨b, o + 1, none⟩ = some (.string y)) (hy : y.size ≤ 140737488351232) :
    Calls Tryz.prog 21 #[.pointer (some ⟨gd, 0, none⟩), .slice (some ⟨b, o, none⟩) 2 c] w fun e w' => e = deedEnd (doneD 5 (houseD P ⟨5, 0, y, ⟨#[]⟩, []⟩)) ∧ DeskTo w0 gh K w (houseD P ⟨5, 0, y, ⟨#[]⟩, []⟩).2.2 w' := by
  have q1 : x.toList = [115, 97, 118, 101] := by rw [hx]; decide +kernel
  obtain ⟨⟨e0, e1⟩, hT⟩ := houseD_bd P ⟨5, 0, y, ⟨#[]⟩, []⟩ h.lone.pg
  have D := Lib.hid (fun w1 hb => do_desk (w1 := w1) h hb ht ⟨5, 0, y, ⟨#[]⟩, []⟩ none 0 (deedAt_one w1 5 0 y ⟨#[]⟩ hy (by first | decide | (have := numD_le hv; omega))))
  have hlt := hd.lt
  have d0 := hd.cell 0
  have bd : ∀ w, (Instr.build 70 #[(0, .int .i64 5), (2, .string y)]).run Tryz.prog w = .ok (.agg #[.int .i64 5, .int .i64 0, .string y, .string ⟨#[]⟩, .slice none 0 0]) w := fun w => run_build w 70 _ _ (by kernel_rfl)
  clear hx h ht hd
  generalize hR : houseD P ⟨5, 0, y, ⟨#[]⟩, []⟩ = R at *
  obtain ⟨T, E, P'⟩ := R
  simp only at e0 e1 hT D ⊢
  have HR := Lib.hid hR
  clear hR
  have a1 : ∀ w, (Op.stringOp .add ⟨#[58]⟩ T).run Tryz.prog w = .ok (.string (⟨#[58]⟩ ++ T)) w := fun w => run_string_add_sum w _ _ (by show 1 + _ ≤ _; omega)
  go_enter Tryz.func21, Tryz.ntmps21
  go_wp2
  obtain ⟨wa, hwa⟩ : ∃ wa, wa = w.alloc (Obj.cells #[.int .i64 5, .int .i64 0, .string y, .string ⟨#[]⟩, .slice none 0 0] 70) := ⟨_, rfl⟩
  have hba : Below w.heap.size w wa := by rw [hwa]; exact (Below.refl _ _).alloc (Nat.le_refl _) _
  have hsz : w.heap.size ≤ w.heap.size ∧ w.heap.size < wa.heap.size := by rw [hwa]; simp
  have hbx : Blk wa w.heap.size 70 #[.int .i64 5, .int .i64 0, .string y, .string ⟨#[]⟩, .slice none 0 0] := by rw [hwa]; exact Blk.new w _ _
  rw [← hwa]
  clear hwa
  have x0 := hbx.cell 0
  have x1 := hbx.cell 1
  have x2 := hbx.cell 2
  have x3 := hbx.cell 3
  have x4 := hbx.cell 4
  have dw := d0
  have d0 : wa.cell? ⟨gd, 0, none⟩ = some (.pointer (some ⟨gh, 0, none⟩)) := by rw [hba.cell hlt]; exact d0
  have D2 := D.out wa.drew hba.drew
  rw [show cDeed ⟨5, 0, y, ⟨#[]⟩, []⟩ none 0 = #[.int .i64 5, .int .i64 0, .string y, .string ⟨#[]⟩, .slice none 0 0] from rfl] at D2
  have D2 := Lib.hid D2
  go_region_held3 (fun w' => w'.cell? ⟨gd, 0, none⟩ = some (.pointer (some ⟨gh, 0, none⟩)) ∧ w'.cell? ⟨w.heap.size, 0, none⟩ = some (.int .i64 5) ∧ w'.cell? ⟨w.heap.size, 1, none⟩ = some (.int .i64 0) ∧ w'.cell? ⟨w.heap.size, 2, none⟩ = some (.string y) ∧ w'.cell? ⟨w.heap.size, 3, none⟩ = some (.string ⟨#[]⟩) ∧ w'.cell? ⟨w.heap.size, 4, none⟩ = some (.slice none 0 0)) (first | exact ⟨d0, x0, x1, x2, x3, x4⟩ | assumption)
    ((first | (go_at_call 32; (with_reducible refine D2.out.mono ?_); rintro e w2 ⟨rfl, hd2, hk2⟩; have hs := deed_back hd2 hk2 hK hsz dw hbx)))
  all_goals
    clear hs D D2 hk2 x0 x1 x2 x3 x4 hbx hba
    by_cases hE : E = 0
    · subst hE
      have M := Lib.hid must_ok
      go_wp2_with fail
      refine (M.out _).mono ?_
      rintro e w3 ⟨rfl, rfl⟩
      go_wp2
      go_ret2
      exact ⟨by rw [doneD_ok rfl]; rfl, hd2⟩
    · have M := Lib.hid (must_no E hE)
      go_wp2_with fail
      refine (M.out _).mono ?_
      rintro e w3 ⟨rfl, rfl⟩
      refine ⟨rfl, ?_, hd2⟩
      rw [doneD_no hE]
      show _ = Ending.panicked (thrown (E.toNat : Int))
      rw [Int.toNat_of_nonneg e0]

set_option maxRecDepth 100000 in
set_option maxHeartbeats 4000000 in
theorem deed_text (w0 w : World) (gh gd b o c : Nat) (K : Nat → Prop) (P : List Pg) (x y : ByteArray) (h : LoneK w0 gh P K w) (ht : Tab w) (hd : Blk w gd 35 #[.pointer (some ⟨gh, 0, none⟩)]) (hK : K gd)
    (hx : x = kText) (c0 : w.cell? ⟨b, o, none⟩ = some (.string x)) (c1 : w.cell? ⟨b, o + 1, none⟩ = some (.string y)) (hy : y.size ≤ 140737488351232) :
    Calls Tryz.prog 21 #[.pointer (some ⟨gd, 0, none⟩), .slice (some ⟨b, o, none⟩) 2 c] w fun e w' => e = deedEnd (doneD 8 (houseD P ⟨8, 0, y, ⟨#[]⟩, []⟩)) ∧ DeskTo w0 gh K w (houseD P ⟨8, 0, y, ⟨#[]⟩, []⟩).2.2 w' := by
  have q1 : x.toList = [116, 101, 120, 116] := by rw [hx]; decide +kernel
  obtain ⟨⟨e0, e1⟩, hT⟩ := houseD_bd P ⟨8, 0, y, ⟨#[]⟩, []⟩ h.lone.pg
  have D := Lib.hid (fun w1 hb => do_desk (w1 := w1) h hb ht ⟨8, 0, y, ⟨#[]⟩, []⟩ none 0 (deedAt_one w1 8 0 y ⟨#[]⟩ hy (by first | decide | (have := numD_le hv; omega))))
  have hlt := hd.lt
  have d0 := hd.cell 0
  have bd : ∀ w, (Instr.build 70 #[(0, .int .i64 8), (2, .string y)]).run Tryz.prog w = .ok (.agg #[.int .i64 8, .int .i64 0, .string y, .string ⟨#[]⟩, .slice none 0 0]) w := fun w => run_build w 70 _ _ (by kernel_rfl)
  clear hx h ht hd
  generalize hR : houseD P ⟨8, 0, y, ⟨#[]⟩, []⟩ = R at *
  obtain ⟨T, E, P'⟩ := R
  simp only at e0 e1 hT D ⊢
  have HR := Lib.hid hR
  clear hR
  have a1 : ∀ w, (Op.stringOp .add ⟨#[58]⟩ T).run Tryz.prog w = .ok (.string (⟨#[58]⟩ ++ T)) w := fun w => run_string_add_sum w _ _ (by show 1 + _ ≤ _; omega)
  go_enter Tryz.func21, Tryz.ntmps21
  go_wp2
  obtain ⟨wa, hwa⟩ : ∃ wa, wa = w.alloc (Obj.cells #[.int .i64 8, .int .i64 0, .string y, .string ⟨#[]⟩, .slice none 0 0] 70) := ⟨_, rfl⟩
  have hba : Below w.heap.size w wa := by rw [hwa]; exact (Below.refl _ _).alloc (Nat.le_refl _) _
  have hsz : w.heap.size ≤ w.heap.size ∧ w.heap.size < wa.heap.size := by rw [hwa]; simp
  have hbx : Blk wa w.heap.size 70 #[.int .i64 8, .int .i64 0, .string y, .string ⟨#[]⟩, .slice none 0 0] := by rw [hwa]; exact Blk.new w _ _
  rw [← hwa]
  clear hwa
  have x0 := hbx.cell 0
  have x1 := hbx.cell 1
  have x2 := hbx.cell 2
  have x3 := hbx.cell 3
  have x4 := hbx.cell 4
  have dw := d0
  have d0 : wa.cell? ⟨gd, 0, none⟩ = some (.pointer (some ⟨gh, 0, none⟩)) := by rw [hba.cell hlt]; exact d0
  have D2 := D.out wa.drew hba.drew
  rw [show cDeed ⟨8, 0, y, ⟨#[]⟩, []⟩ none 0 = #[.int .i64 8, .int .i64 0, .string y, .string ⟨#[]⟩, .slice none 0 0] from rfl] at D2
  have D2 := Lib.hid D2
  go_region_held3 (fun w' => w'.cell? ⟨gd, 0, none⟩ = some (.pointer (some ⟨gh, 0, none⟩)) ∧ w'.cell? ⟨w.heap.size, 0, none⟩ = some (.int .i64 8) ∧ w'.cell? ⟨w.heap.size, 1, none⟩ = some (.int .i64 0) ∧ w'.cell? ⟨w.heap.size, 2, none⟩ = some (.string y) ∧ w'.cell? ⟨w.heap.size, 3, none⟩ = some (.string ⟨#[]⟩) ∧ w'.cell? ⟨w.heap.size, 4, none⟩ = some (.slice none 0 0)) (first | exact ⟨d0, x0, x1, x2, x3, x4⟩ | assumption)
    ((first | (go_at_call 32; (with_reducible refine D2.out.mono ?_); rintro e w2 ⟨rfl, hd2, hk2⟩; have hs := deed_back hd2 hk2 hK hsz dw hbx)))
  all_goals
    clear hs D D2 hk2 x0 x1 x2 x3 x4 hbx hba
    by_cases hE : E = 0
    · subst hE
      have M := Lib.hid must_ok
      go_wp2_with fail
      refine (M.out _).mono ?_
      rintro e w3 ⟨rfl, rfl⟩
      go_wp2
      go_ret2
      exact ⟨by rw [doneD_ok rfl]; rfl, hd2⟩
    · have M := Lib.hid (must_no E hE)
      go_wp2_with fail
      refine (M.out _).mono ?_
      rintro e w3 ⟨rfl, rfl⟩
      refine ⟨rfl, ?_, hd2⟩
      rw [doneD_no hE]
      show _ = Ending.panicked (thrown (E.toNat : Int))
      rw [Int.toNat_of_nonneg e0]

set_option maxRecDepth 100000 in
set_option maxHeartbeats 4000000 in
theorem deed_drop (w0 w : World) (gh gd b o c : Nat) (K : Nat → Prop) (P : List Pg) (x y : ByteArray) (h : LoneK w0 gh P K w) (ht : Tab w) (hd : Blk w gd 35 #[.pointer (some ⟨gh, 0, none⟩)]) (hK : K gd)
    (hx : x = kDrop) (c0 : w.cell? ⟨b, o, none⟩ = some (.string x)) (c1 : w.cell? ⟨b, o + 1, none⟩ = some (.string y)) (hy : y.size ≤ 140737488351232) :
    Calls Tryz.prog 21 #[.pointer (some ⟨gd, 0, none⟩), .slice (some ⟨b, o, none⟩) 2 c] w fun e w' => e = deedEnd (doneD 9 (houseD P ⟨9, 0, y, ⟨#[]⟩, []⟩)) ∧ DeskTo w0 gh K w (houseD P ⟨9, 0, y, ⟨#[]⟩, []⟩).2.2 w' := by
  have q1 : x.toList = [100, 114, 111, 112] := by rw [hx]; decide +kernel
  obtain ⟨⟨e0, e1⟩, hT⟩ := houseD_bd P ⟨9, 0, y, ⟨#[]⟩, []⟩ h.lone.pg
  have D := Lib.hid (fun w1 hb => do_desk (w1 := w1) h hb ht ⟨9, 0, y, ⟨#[]⟩, []⟩ none 0 (deedAt_one w1 9 0 y ⟨#[]⟩ hy (by first | decide | (have := numD_le hv; omega))))
  have hlt := hd.lt
  have d0 := hd.cell 0
  have bd : ∀ w, (Instr.build 70 #[(0, .int .i64 9), (2, .string y)]).run Tryz.prog w = .ok (.agg #[.int .i64 9, .int .i64 0, .string y, .string ⟨#[]⟩, .slice none 0 0]) w := fun w => run_build w 70 _ _ (by kernel_rfl)
  clear hx h ht hd
  generalize hR : houseD P ⟨9, 0, y, ⟨#[]⟩, []⟩ = R at *
  obtain ⟨T, E, P'⟩ := R
  simp only at e0 e1 hT D ⊢
  have HR := Lib.hid hR
  clear hR
  have a1 : ∀ w, (Op.stringOp .add ⟨#[58]⟩ T).run Tryz.prog w = .ok (.string (⟨#[58]⟩ ++ T)) w := fun w => run_string_add_sum w _ _ (by show 1 + _ ≤ _; omega)
  go_enter Tryz.func21, Tryz.ntmps21
  go_wp2
  obtain ⟨wa, hwa⟩ : ∃ wa, wa = w.alloc (Obj.cells #[.int .i64 9, .int .i64 0, .string y, .string ⟨#[]⟩, .slice none 0 0] 70) := ⟨_, rfl⟩
  have hba : Below w.heap.size w wa := by rw [hwa]; exact (Below.refl _ _).alloc (Nat.le_refl _) _
  have hsz : w.heap.size ≤ w.heap.size ∧ w.heap.size < wa.heap.size := by rw [hwa]; simp
  have hbx : Blk wa w.heap.size 70 #[.int .i64 9, .int .i64 0, .string y, .string ⟨#[]⟩, .slice none 0 0] := by rw [hwa]; exact Blk.new w _ _
  rw [← hwa]
  clear hwa
  have x0 := hbx.cell 0
  have x1 := hbx.cell 1
  have x2 := hbx.cell 2
  have x3 := hbx.cell 3
  have x4 := hbx.cell 4
  have dw := d0
  have d0 : wa.cell? ⟨gd, 0, none⟩ = some (.pointer (some ⟨gh, 0, none⟩)) := by rw [hba.cell hlt]; exact d0
  have D2 := D.out wa.drew hba.drew
  rw [show cDeed ⟨9, 0, y, ⟨#[]⟩, []⟩ none 0 = #[.int .i64 9, .int .i64 0, .string y, .string ⟨#[]⟩, .slice none 0 0] from rfl] at D2
  have D2 := Lib.hid D2
  go_region_held3 (fun w' => w'.cell? ⟨gd, 0, none⟩ = some (.pointer (some ⟨gh, 0, none⟩)) ∧ w'.cell? ⟨w.heap.size, 0, none⟩ = some (.int .i64 9) ∧ w'.cell? ⟨w.heap.size, 1, none⟩ = some (.int .i64 0) ∧ w'.cell? ⟨w.heap.size, 2, none⟩ = some (.string y) ∧ w'.cell? ⟨w.heap.size, 3, none⟩ = some (.string ⟨#[]⟩) ∧ w'.cell? ⟨w.heap.size, 4, none⟩ = some (.slice none 0 0)) (first | exact ⟨d0, x0, x1, x2, x3, x4⟩ | assumption)
    ((first | (go_at_call 32; (with_reducible refine D2.out.mono ?_); rintro e w2 ⟨rfl, hd2, hk2⟩; have hs := deed_back hd2 hk2 hK hsz dw hbx)))
  all_goals
    clear hs D D2 hk2 x0 x1 x2 x3 x4 hbx hba
    by_cases hE : E = 0
    · subst hE
      have M := Lib.hid must_ok
      go_wp2_with fail
      refine (M.out _).mono ?_
      rintro e w3 ⟨rfl, rfl⟩
      go_wp2
      go_ret2
      exact ⟨by rw [doneD_ok rfl]; rfl, hd2⟩
    · have M := Lib.hid (must_no E hE)
      go_wp2_with fail
      refine (M.out _).mono ?_
      rintro e w3 ⟨rfl, rfl⟩
      refine ⟨rfl, ?_, hd2⟩
      rw [doneD_no hE]
      show _ = Ending.panicked (thrown (E.toNat : Int))
      rw [Int.toNat_of_nonneg e0]
end Go.Proofs.YtaogegpfapfchaaGreatDoor

