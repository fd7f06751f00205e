import Derived.Test.YtaogegpfapfchaaGreatDoorDeskM36
/- Several texts in one: XDeskPack. -/
/- The walk of the desk's deed: a number. -/
namespace Go.Proofs.YtaogegpfapfchaaGreatDoor
open Go.RowKit
set_option linter.unusedVariables false

set_option maxRecDepth 100000 in
set_option maxHeartbeats 4000000 in
theorem deed_pack (w0 w : World) (gh gd b o c : Nat) (K : Nat → Prop) (P : List Pg) (x y z : ByteArray) (h : LoneK w0 gh P K w) (ht : Tab w) (hd : Blk w gd 35 #[.pointer (some ⟨gh, 0, none⟩)]) (hK : K gd)
    (hx : x = kPack) (c0 : w.cell? ⟨b, o, none⟩ = some (.string x)) (c1 : w.cell? ⟨b, o + 1, none⟩ = some (.string y)) (c2 : w.cell? ⟨b, o + 2, none⟩ = some (.string z)) (hbs : b < w.heap.size) (v : Nat) (hz : z.size ≤ 140737488351232) (hv : numD z = some v) (hy : y.size ≤ 140737488351232) :
    Calls Tryz.prog 21 #[.pointer (some ⟨gd, 0, none⟩), .slice (some ⟨b, o, none⟩) 3 c] w fun e w' => e = deedEnd (doneD 6 (houseD P ⟨6, (v : Int), y, ⟨#[]⟩, []⟩)) ∧ DeskTo w0 gh K w (houseD P ⟨6, (v : Int), y, ⟨#[]⟩, []⟩).2.2 w' := by
  have q1 : x.toList = [112, 97, 99, 107] := by rw [hx]; decide +kernel
  obtain ⟨⟨e0, e1⟩, hT⟩ := houseD_bd P ⟨6, (v : Int), y, ⟨#[]⟩, []⟩ h.lone.pg
  have D := Lib.hid (fun w1 hb => do_desk (w1 := w1) h hb ht ⟨6, (v : Int), y, ⟨#[]⟩, []⟩ none 0 (deedAt_one w1 6 (v : Int) y ⟨#[]⟩ hy (by first | decide | (have := numD_le hv; omega))))
  have hlt := hd.lt
  have d0 := hd.cell 0
  have bd : ∀ w, (Instr.build 70 #[(0, .int .i64 6), (2, .string y)]).run Tryz.prog w = .ok (.agg #[.int .i64 6, .int .i64 0, .string y, .string ⟨#[]⟩, .slice none 0 0]) w := fun w => run_build w 70 _ _ (by kernel_rfl)
  have c2' : (w.alloc (Obj.cells #[.int .i64 6, .int .i64 0, .string y, .string ⟨#[]⟩, .slice none 0 0] 70)).cell? ⟨b, o + 2, none⟩ = some (.string z) := by rw [World.cell?_alloc_lt w _ ⟨b, o + 2, none⟩ hbs]; exact c2
  have N := Lib.hid (num_yes hz hv)
  have hv9 := numD_le hv
  clear hv
  clear hx h ht hd
  generalize hR : houseD P ⟨6, (v : Int), y, ⟨#[]⟩, []⟩ = R at *
  obtain ⟨T, E, P'⟩ := R
  simp only at e0 e1 hT D ⊢
  have HR := Lib.hid hR
  clear hR
  have a1 : ∀ w, (Op.stringOp .add ⟨#[58]⟩ T).run Tryz.prog w = .ok (.string (⟨#[58]⟩ ++ T)) w := fun w => run_string_add_sum w _ _ (by show 1 + _ ≤ _; omega)
  go_enter Tryz.func21, Tryz.ntmps21
  go_wp2_with fail
  refine (N.out _).mono ?_
  rintro e w3 ⟨rfl, hb3⟩
  have hnb : Below w.heap.size w w3 := chain hb3 ((Below.refl _ _).alloc (Nat.le_refl _) _)
  have hbl := (Blk.new w 70 #[.int .i64 6, .int .i64 0, .string y, .string ⟨#[]⟩, .slice none 0 0]).after hb3
  have f1 := hbl.frozen 1
  have k1 := hbl.cell 1
  go_wp2
  obtain ⟨wa, hwa⟩ : ∃ wa, wa = w3.setCell ⟨w.heap.size, 1, none⟩ (.int .i64 (v : Int)) := ⟨_, rfl⟩
  have hba : Below w.heap.size w wa := by rw [hwa]; exact hnb.setCell (Nat.le_refl _) _
  have hsz : w.heap.size ≤ w.heap.size ∧ w.heap.size < wa.heap.size := by rw [hwa]; rw [size_setCell]; exact ⟨Nat.le_refl _, hbl.lt⟩
  have hbx : Blk wa w.heap.size 70 #[.int .i64 6, .int .i64 (v : Int), .string y, .string ⟨#[]⟩, .slice none 0 0] := by rw [hwa]; exact hbl.set_ 1 (.int .i64 (v : Int))
  rw [← hwa]
  clear hwa
  have x0 := hbx.cell 0
  have x1 := hbx.cell 1
  have x2 := hbx.cell 2
  have x3 := hbx.cell 3
  have x4 := hbx.cell 4
  have dw := d0
  have d0 : wa.cell? ⟨gd, 0, none⟩ = some (.pointer (some ⟨gh, 0, none⟩)) := by rw [hba.cell hlt]; exact d0
  have D2 := D.out wa.drew hba.drew
  rw [show cDeed ⟨6, (v : Int), y, ⟨#[]⟩, []⟩ none 0 = #[.int .i64 6, .int .i64 (v : Int), .string y, .string ⟨#[]⟩, .slice none 0 0] from rfl] at D2
  have D2 := Lib.hid D2
  go_region_held3 (fun w' => w'.cell? ⟨gd, 0, none⟩ = some (.pointer (some ⟨gh, 0, none⟩)) ∧ w'.cell? ⟨w.heap.size, 0, none⟩ = some (.int .i64 6) ∧ w'.cell? ⟨w.heap.size, 1, none⟩ = some (.int .i64 (v : Int)) ∧ w'.cell? ⟨w.heap.size, 2, none⟩ = some (.string y) ∧ w'.cell? ⟨w.heap.size, 3, none⟩ = some (.string ⟨#[]⟩) ∧ w'.cell? ⟨w.heap.size, 4, none⟩ = some (.slice none 0 0)) (first | exact ⟨d0, x0, x1, x2, x3, x4⟩ | assumption)
    ((first | (go_at_call 32; (with_reducible refine D2.out.mono ?_); rintro e w2 ⟨rfl, hd2, hk2⟩; have hs := deed_back hd2 hk2 hK hsz dw hbx)))
  all_goals
    clear hs D D2 hk2 x0 x1 x2 x3 x4 hbx hba
    by_cases hE : E = 0
    · subst hE
      have M := Lib.hid must_ok
      go_wp2_with fail
      refine (M.out _).mono ?_
      rintro e w3 ⟨rfl, rfl⟩
      go_wp2
      go_ret2
      exact ⟨by rw [doneD_ok rfl]; rfl, hd2⟩
    · have M := Lib.hid (must_no E hE)
      go_wp2_with fail
      refine (M.out _).mono ?_
      rintro e w3 ⟨rfl, rfl⟩
      refine ⟨rfl, ?_, hd2⟩
      rw [doneD_no hE]
      show _ = Ending.panicked (thrown (E.toNat : Int))
      rw [Int.toNat_of_nonneg e0]

set_option maxRecDepth 100000 in
set_option maxHeartbeats 4000000 in
theorem deed_pack_no (w0 w : World) (gh gd b o c : Nat) (K : Nat → Prop) (P : List Pg) (x y z : ByteArray) (h : LoneK w0 gh P K w) (hx : x = kPack) (c0 : w.cell? ⟨b, o, none⟩ = some (.string x)) (c1 : w.cell? ⟨b, o + 1, none⟩ = some (.string y)) (c2 : w.cell? ⟨b, o + 2, none⟩ = some (.string z)) (hbs : b < w.heap.size) (hz : z.size ≤ 140737488351232) (hv : numD z = none) :
    Calls Tryz.prog 21 #[.pointer (some ⟨gd, 0, none⟩), .slice (some ⟨b, o, none⟩) 3 c] w fun e w' => e = .panicked (thrown 12) ∧ DeskTo w0 gh K w P w' := by
  have q1 : x.toList = [112, 97, 99, 107] := by rw [hx]; decide +kernel
  have bd : ∀ w, (Instr.build 70 #[(0, .int .i64 6), (2, .string y)]).run Tryz.prog w = .ok (.agg #[.int .i64 6, .int .i64 0, .string y, .string ⟨#[]⟩, .slice none 0 0]) w := fun w => run_build w 70 _ _ (by kernel_rfl)
  have c2' : (w.alloc (Obj.cells #[.int .i64 6, .int .i64 0, .string y, .string ⟨#[]⟩, .slice none 0 0] 70)).cell? ⟨b, o + 2, none⟩ = some (.string z) := by rw [World.cell?_alloc_lt w _ ⟨b, o + 2, none⟩ hbs]; exact c2
  have N := Lib.hid (num_no hz hv)
  have S := Lib.hid (fun w' hb => DeskTo.stay (w' := w') h hb)
  clear hx hv h
  go_enter Tryz.func21, Tryz.ntmps21
  go_wp2_with fail
  refine (N.out _).mono ?_
  rintro e w3 ⟨rfl, hb3⟩
  exact ⟨rfl, rfl, S.out _ (chain hb3 ((Below.refl _ _).alloc (Nat.le_refl _) _))⟩

set_option maxRecDepth 100000 in
set_option maxHeartbeats 4000000 in
theorem deed_crash (w0 w : World) (gh gd b o c : Nat) (K : Nat → Prop) (P : List Pg) (x y z : ByteArray) (h : LoneK w0 gh P K w) (ht : Tab w) (hd : Blk w gd 35 #[.pointer (some ⟨gh, 0, none⟩)]) (hK : K gd)
    (hx : x = kCrash) (c0 : w.cell? ⟨b, o, none⟩ = some (.string x)) (c1 : w.cell? ⟨b, o + 1, none⟩ = some (.string y)) (c2 : w.cell? ⟨b, o + 2, none⟩ = some (.string z)) (hbs : b < w.heap.size) (v : Nat) (hz : z.size ≤ 140737488351232) (hv : numD z = some v) (hy : y.size ≤ 140737488351232) :
    Calls Tryz.prog 21 #[.pointer (some ⟨gd, 0, none⟩), .slice (some ⟨b, o, none⟩) 3 c] w fun e w' => e = deedEnd (doneD 7 (houseD P ⟨7, (v : Int), y, ⟨#[]⟩, []⟩)) ∧ DeskTo w0 gh K w (houseD P ⟨7, (v : Int), y, ⟨#[]⟩, []⟩).2.2 w' := by
  have q1 : x.toList = [99, 114, 97, 115, 104] := by rw [hx]; decide +kernel
  obtain ⟨⟨e0, e1⟩, hT⟩ := houseD_bd P ⟨7, (v : Int), y, ⟨#[]⟩, []⟩ h.lone.pg
  have D := Lib.hid (fun w1 hb => do_desk (w1 := w1) h hb ht ⟨7, (v : Int), y, ⟨#[]⟩, []⟩ none 0 (deedAt_one w1 7 (v : Int) y ⟨#[]⟩ hy (by first | decide | (have := numD_le hv; omega))))
  have hlt := hd.lt
  have d0 := hd.cell 0
  have bd : ∀ w, (Instr.build 70 #[(0, .int .i64 7), (2, .string y)]).run Tryz.prog w = .ok (.agg #[.int .i64 7, .int .i64 0, .string y, .string ⟨#[]⟩, .slice none 0 0]) w := fun w => run_build w 70 _ _ (by kernel_rfl)
  have c2' : (w.alloc (Obj.cells #[.int .i64 7, .int .i64 0, .string y, .string ⟨#[]⟩, .slice none 0 0] 70)).cell? ⟨b, o + 2, none⟩ = some (.string z) := by rw [World.cell?_alloc_lt w _ ⟨b, o + 2, none⟩ hbs]; exact c2
  have N := Lib.hid (num_yes hz hv)
  have hv9 := numD_le hv
  clear hv
  clear hx h ht hd
  generalize hR : houseD P ⟨7, (v : Int), y, ⟨#[]⟩, []⟩ = R at *
  obtain ⟨T, E, P'⟩ := R
  simp only at e0 e1 hT D ⊢
  have HR := Lib.hid hR
  clear hR
  have a1 : ∀ w, (Op.stringOp .add ⟨#[58]⟩ T).run Tryz.prog w = .ok (.string (⟨#[58]⟩ ++ T)) w := fun w => run_string_add_sum w _ _ (by show 1 + _ ≤ _; omega)
  go_enter Tryz.func21, Tryz.ntmps21
  go_wp2_with fail
  refine (N.out _).mono ?_
  rintro e w3 ⟨rfl, hb3⟩
  have hnb : Below w.heap.size w w3 := chain hb3 ((Below.refl _ _).alloc (Nat.le_refl _) _)
  have hbl := (Blk.new w 70 #[.int .i64 7, .int .i64 0, .string y, .string ⟨#[]⟩, .slice none 0 0]).after hb3
  have f1 := hbl.frozen 1
  have k1 := hbl.cell 1
  go_wp2
  obtain ⟨wa, hwa⟩ : ∃ wa, wa = w3.setCell ⟨w.heap.size, 1, none⟩ (.int .i64 (v : Int)) := ⟨_, rfl⟩
  have hba : Below w.heap.size w wa := by rw [hwa]; exact hnb.setCell (Nat.le_refl _) _
  have hsz : w.heap.size ≤ w.heap.size ∧ w.heap.size < wa.heap.size := by rw [hwa]; rw [size_setCell]; exact ⟨Nat.le_refl _, hbl.lt⟩
  have hbx : Blk wa w.heap.size 70 #[.int .i64 7, .int .i64 (v : Int), .string y, .string ⟨#[]⟩, .slice none 0 0] := by rw [hwa]; exact hbl.set_ 1 (.int .i64 (v : Int))
  rw [← hwa]
  clear hwa
  have x0 := hbx.cell 0
  have x1 := hbx.cell 1
  have x2 := hbx.cell 2
  have x3 := hbx.cell 3
  have x4 := hbx.cell 4
  have dw := d0
  have d0 : wa.cell? ⟨gd, 0, none⟩ = some (.pointer (some ⟨gh, 0, none⟩)) := by rw [hba.cell hlt]; exact d0
  have D2 := D.out wa.drew hba.drew
  rw [show cDeed ⟨7, (v : Int), y, ⟨#[]⟩, []⟩ none 0 = #[.int .i64 7, .int .i64 (v : Int), .string y, .string ⟨#[]⟩, .slice none 0 0] from rfl] at D2
  have D2 := Lib.hid D2
  go_region_held3 (fun w' => w'.cell? ⟨gd, 0, none⟩ = some (.pointer (some ⟨gh, 0, none⟩)) ∧ w'.cell? ⟨w.heap.size, 0, none⟩ = some (.int .i64 7) ∧ w'.cell? ⟨w.heap.size, 1, none⟩ = some (.int .i64 (v : Int)) ∧ w'.cell? ⟨w.heap.size, 2, none⟩ = some (.string y) ∧ w'.cell? ⟨w.heap.size, 3, none⟩ = some (.string ⟨#[]⟩) ∧ w'.cell? ⟨w.heap.size, 4, none⟩ = some (.slice none 0 0)) (first | exact ⟨d0, x0, x1, x2, x3, x4⟩ | assumption)
    ((first | (go_at_call 32; (with_reducible refine D2.out.mono ?_); rintro e w2 ⟨rfl, hd2, hk2⟩; have hs := deed_back hd2 hk2 hK hsz dw hbx)))
  all_goals
    clear hs D D2 hk2 x0 x1 x2 x3 x4 hbx hba
    by_cases hE : E = 0
    · subst hE
      have M := Lib.hid must_ok
      go_wp2_with fail
      refine (M.out _).mono ?_
      rintro e w3 ⟨rfl, rfl⟩
      go_wp2
      go_ret2
      exact ⟨by rw [doneD_ok rfl]; rfl, hd2⟩
    · have M := Lib.hid (must_no E hE)
      go_wp2_with fail
      refine (M.out _).mono ?_
      rintro e w3 ⟨rfl, rfl⟩
      refine ⟨rfl, ?_, hd2⟩
      rw [doneD_no hE]
      show _ = Ending.panicked (thrown (E.toNat : Int))
      rw [Int.toNat_of_nonneg e0]

set_option maxRecDepth 100000 in
set_option maxHeartbeats 4000000 in
theorem deed_crash_no (w0 w : World) (gh gd b o c : Nat) (K : Nat → Prop) (P : List Pg) (x y z : ByteArray) (h : LoneK w0 gh P K w) (hx : x = kCrash) (c0 : w.cell? ⟨b, o, none⟩ = some (.string x)) (c1 : w.cell? ⟨b, o + 1, none⟩ = some (.string y)) (c2 : w.cell? ⟨b, o + 2, none⟩ = some (.string z)) (hbs : b < w.heap.size) (hz : z.size ≤ 140737488351232) (hv : numD z = none) :
    Calls Tryz.prog 21 #[.pointer (some ⟨gd, 0, none⟩), .slice (some ⟨b, o, none⟩) 3 c] w fun e w' => e = .panicked (thrown 12) ∧ DeskTo w0 gh K w P w' := by
  have q1 : x.toList = [99, 114, 97, 115, 104] := by rw [hx]; decide +kernel
  have bd : ∀ w, (Instr.build 70 #[(0, .int .i64 7), (2, .string y)]).run Tryz.prog w = .ok (.agg #[.int .i64 7, .int .i64 0, .string y, .string ⟨#[]⟩, .slice none 0 0]) w := fun w => run_build w 70 _ _ (by kernel_rfl)
  have c2' : (w.alloc (Obj.cells #[.int .i64 7, .int .i64 0, .string y, .string ⟨#[]⟩, .slice none 0 0] 70)).cell? ⟨b, o + 2, none⟩ = some (.string z) := by rw [World.cell?_alloc_lt w _ ⟨b, o + 2, none⟩ hbs]; exact c2
  have N := Lib.hid (num_no hz hv)
  have S := Lib.hid (fun w' hb => DeskTo.stay (w' := w') h hb)
  clear hx hv h
  go_enter Tryz.func21, Tryz.ntmps21
  go_wp2_with fail
  refine (N.out _).mono ?_
  rintro e w3 ⟨rfl, hb3⟩
  exact ⟨rfl, rfl, S.out _ (chain hb3 ((Below.refl _ _).alloc (Nat.le_refl _) _))⟩
end Go.Proofs.YtaogegpfapfchaaGreatDoor

