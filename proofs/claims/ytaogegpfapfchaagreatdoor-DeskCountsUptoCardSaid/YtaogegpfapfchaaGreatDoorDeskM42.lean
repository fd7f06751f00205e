import Derived.Test.YtaogegpfapfchaaGreatDoorDeskM36
import Derived.Deep.RegionHeld3
import Derived.Deep.DeepCutAuto
/- Several texts in one: XDeskEditNo. -/
/- The walk of the desk's deed: an edit whose words are no numbers. -/
namespace Go.Proofs.YtaogegpfapfchaaGreatDoor
open Go.RowKit
set_option linter.unusedVariables false

set_option maxRecDepth 100000 in
set_option maxHeartbeats 4000000 in
theorem deed_edit_no_zq (w0 w : World) (gh gd b o c : Nat) (K : Nat → Prop) (P : List Pg) (x y z q : ByteArray) (h : LoneK w0 gh P K w) (hx : x = kEdit) (c0 : w.cell? ⟨b, o, none⟩ = some (.string x)) (c1 : w.cell? ⟨b, o + 1, none⟩ = some (.string y)) (c2 : w.cell? ⟨b, o + 2, none⟩ = some (.string z)) (c3 : w.cell? ⟨b, o + 3, none⟩ = some (.string q)) (hbs : b < w.heap.size) (hz : z.size ≤ 140737488351232) (hq : q.size ≤ 140737488351232) (hu : numD z = none) (hv : numD q = none) :
    Calls Tryz.prog 21 #[.pointer (some ⟨gd, 0, none⟩), .slice (some ⟨b, o, none⟩) 5 c] w fun e w' => e = .panicked (thrown 12) ∧ DeskTo w0 gh K w P w' := by
  have q1 : x.toList = [101, 100, 105, 116] := by rw [hx]; decide +kernel
  have bd : ∀ w, (Instr.build 70 #[(0, .int .i64 2), (2, .string y)]).run Tryz.prog w = .ok (.agg #[.int .i64 2, .int .i64 0, .string y, .string ⟨#[]⟩, .slice none 0 0]) w := fun w => run_build w 70 _ _ (by kernel_rfl)
  have S := Lib.hid (fun w' hb => DeskTo.stay (w' := w') h hb)
  have N1 := Lib.hid (num_no hz hu)
  have N2 := Lib.hid (num_no hq hv)
  clear hx h hu hv
  go_enter Tryz.func21, Tryz.ntmps21
  go_upto_region 37 with fail
  obtain ⟨wa, hwa⟩ : ∃ wa, wa = w.alloc (Obj.cells #[.int .i64 2, .int .i64 0, .string y, .string ⟨#[]⟩, .slice none 0 0] 70) := ⟨_, rfl⟩
  have hba : Below w.heap.size w wa := by rw [hwa]; exact (Below.refl _ _).alloc (Nat.le_refl _) _
  have hwas : wa.heap.size = w.heap.size + 1 := by rw [hwa]; simp
  have cz : wa.cell? ⟨b, o + 2, none⟩ = some (.string z) := by rw [hba.cell hbs]; exact c2
  have cq : wa.cell? ⟨b, o + 3, none⟩ = some (.string q) := by rw [hba.cell hbs]; exact c3
  rw [← hwa]
  have K0 : XNum b o z q wa wa.drew := ⟨cz, cq, by omega, (Below.refl _ _).drew⟩
  clear hwa hwas c2 c3 cz cq
  refine wp_region_held_drew (S := fun w' => XNum b o z q wa w') (by kernel_rfl) K0 (fun hHeld => ?_)
  refine wpAnyH_take (i := 0) (v := ?v1) rfl (by kernel_rfl) (by kernel_rfl) (by kernel_rfl) (fun _ _ _ h => h) (Or.inl ⟨by rfl, ?hy1⟩) (by assumption) ?rest1
  case hy1 =>
    intro w hSw
    (try dsimp only at hSw)
    have hS1 := hSw.1
    have hS2 := hSw.2.1
    go_simp
    all_goals with_reducible rfl
  try simp only [Act.put]
  refine wpAnyH_take (i := 1) (v := ?v2) rfl (by kernel_rfl) (by kernel_rfl) (by kernel_rfl) (fun _ _ _ h => h) (Or.inl ⟨by rfl, ?hy2⟩) (by assumption) ?rest2
  case hy2 =>
    intro w hSw
    (try dsimp only at hSw)
    have hS1 := hSw.1
    have hS2 := hSw.2.1
    go_simp
    all_goals with_reducible rfl
  try simp only [Act.put]
  refine wpAnyH_take (i := 2) (v := ?v3) rfl (by kernel_rfl) (by kernel_rfl) (by kernel_rfl) (fun _ _ _ h => h) (Or.inl ⟨by rfl, ?hy3⟩) (by assumption) ?rest3
  case hy3 =>
    intro w hSw
    (try dsimp only at hSw)
    have hS1 := hSw.1
    have hS2 := hSw.2.1
    go_simp
    all_goals with_reducible rfl
  try simp only [Act.put]
  refine wpAnyH_take (i := 4) (v := ?v4) rfl (by kernel_rfl) (by kernel_rfl) (by kernel_rfl) (fun _ _ _ h => h) (Or.inl ⟨by rfl, ?hy4⟩) (by assumption) ?rest4
  case hy4 =>
    intro w hSw
    (try dsimp only at hSw)
    have hS1 := hSw.1
    have hS2 := hSw.2.1
    go_simp
    all_goals with_reducible rfl
  try simp only [Act.put]
  refine wpAnyH_take (i := 5) (v := ?v5) rfl (by kernel_rfl) (by kernel_rfl) (by kernel_rfl) (fun _ _ _ h => h) (Or.inl ⟨by rfl, ?hy5⟩) (by assumption) ?rest5
  case hy5 =>
    intro w hSw
    (try dsimp only at hSw)
    have hS1 := hSw.1
    have hS2 := hSw.2.1
    go_simp
    all_goals with_reducible rfl
  try simp only [Act.put]
  refine wpAnyH_take (i := 6) (v := ?v6) rfl (by kernel_rfl) (by kernel_rfl) (by kernel_rfl) (fun _ _ _ h => h) (Or.inl ⟨by rfl, ?hy6⟩) (by assumption) ?rest6
  case hy6 =>
    intro w hSw
    (try dsimp only at hSw)
    have hS1 := hSw.1
    have hS2 := hSw.2.1
    go_simp
    all_goals with_reducible rfl
  try simp only [Act.put]
  refine wpAnyH_ready (rs := [3, 9]) (by kernel_rfl) (by simp) ?_
  refine AllReadyH.cons rfl (fun K hK => ?_) ?_
  · go_simp
    go_wp2_with (go_at_call 31; refine num_p N1 ?_; intro w6 hb6)
    exact ⟨rfl, rfl, S.out _ (chain hb6 (chain (XNum.bel (by assumption)) hba))⟩
  refine AllReadyH.cons rfl (fun K hK => ?_) AllReadyH.nil
  go_simp
  refine hK.out _ _ (XNum.al (by assumption) _) (fun hHeld => ?_)
  clear hK K
  try simp only [Act.put, List.setIfInBounds_toArray, List.set_cons_zero, List.set_cons_succ]
  refine wpAnyH_ready (rs := [3]) (by kernel_rfl) (by simp) ?_
  refine AllReadyH.cons rfl (fun K hK => ?_) AllReadyH.nil
  go_simp
  go_wp2_with (go_at_call 31; refine num_p N1 ?_; intro w6 hb6)
  exact ⟨rfl, rfl, S.out _ (chain hb6 (chain (XNum.bel (by assumption)) hba))⟩

set_option maxRecDepth 100000 in
set_option maxHeartbeats 4000000 in
theorem deed_edit_no_z (w0 w : World) (gh gd b o c : Nat) (K : Nat → Prop) (P : List Pg) (x y z q : ByteArray) (h : LoneK w0 gh P K w) (hx : x = kEdit) (c0 : w.cell? ⟨b, o, none⟩ = some (.string x)) (c1 : w.cell? ⟨b, o + 1, none⟩ = some (.string y)) (c2 : w.cell? ⟨b, o + 2, none⟩ = some (.string z)) (c3 : w.cell? ⟨b, o + 3, none⟩ = some (.string q)) (hbs : b < w.heap.size) (hz : z.size ≤ 140737488351232) (hq : q.size ≤ 140737488351232) (hu : numD z = none) (v : Nat) (hv : numD q = some v) :
    Calls Tryz.prog 21 #[.pointer (some ⟨gd, 0, none⟩), .slice (some ⟨b, o, none⟩) 5 c] w fun e w' => e = .panicked (thrown 12) ∧ DeskTo w0 gh K w P w' := by
  have q1 : x.toList = [101, 100, 105, 116] := by rw [hx]; decide +kernel
  have bd : ∀ w, (Instr.build 70 #[(0, .int .i64 2), (2, .string y)]).run Tryz.prog w = .ok (.agg #[.int .i64 2, .int .i64 0, .string y, .string ⟨#[]⟩, .slice none 0 0]) w := fun w => run_build w 70 _ _ (by kernel_rfl)
  have S := Lib.hid (fun w' hb => DeskTo.stay (w' := w') h hb)
  have N1 := Lib.hid (num_no hz hu)
  have N2 := Lib.hid (num_yes hq hv)
  clear hx h hu hv
  go_enter Tryz.func21, Tryz.ntmps21
  go_upto_region 37 with fail
  obtain ⟨wa, hwa⟩ : ∃ wa, wa = w.alloc (Obj.cells #[.int .i64 2, .int .i64 0, .string y, .string ⟨#[]⟩, .slice none 0 0] 70) := ⟨_, rfl⟩
  have hba : Below w.heap.size w wa := by rw [hwa]; exact (Below.refl _ _).alloc (Nat.le_refl _) _
  have hwas : wa.heap.size = w.heap.size + 1 := by rw [hwa]; simp
  have cz : wa.cell? ⟨b, o + 2, none⟩ = some (.string z) := by rw [hba.cell hbs]; exact c2
  have cq : wa.cell? ⟨b, o + 3, none⟩ = some (.string q) := by rw [hba.cell hbs]; exact c3
  rw [← hwa]
  have K0 : XNum b o z q wa wa.drew := ⟨cz, cq, by omega, (Below.refl _ _).drew⟩
  clear hwa hwas c2 c3 cz cq
  refine wp_region_held_drew (S := fun w' => XNum b o z q wa w') (by kernel_rfl) K0 (fun hHeld => ?_)
  refine wpAnyH_take (i := 0) (v := ?v1) rfl (by kernel_rfl) (by kernel_rfl) (by kernel_rfl) (fun _ _ _ h => h) (Or.inl ⟨by rfl, ?hy1⟩) (by assumption) ?rest1
  case hy1 =>
    intro w hSw
    (try dsimp only at hSw)
    have hS1 := hSw.1
    have hS2 := hSw.2.1
    go_simp
    all_goals with_reducible rfl
  try simp only [Act.put]
  refine wpAnyH_take (i := 1) (v := ?v2) rfl (by kernel_rfl) (by kernel_rfl) (by kernel_rfl) (fun _ _ _ h => h) (Or.inl ⟨by rfl, ?hy2⟩) (by assumption) ?rest2
  case hy2 =>
    intro w hSw
    (try dsimp only at hSw)
    have hS1 := hSw.1
    have hS2 := hSw.2.1
    go_simp
    all_goals with_reducible rfl
  try simp only [Act.put]
  refine wpAnyH_take (i := 2) (v := ?v3) rfl (by kernel_rfl) (by kernel_rfl) (by kernel_rfl) (fun _ _ _ h => h) (Or.inl ⟨by rfl, ?hy3⟩) (by assumption) ?rest3
  case hy3 =>
    intro w hSw
    (try dsimp only at hSw)
    have hS1 := hSw.1
    have hS2 := hSw.2.1
    go_simp
    all_goals with_reducible rfl
  try simp only [Act.put]
  refine wpAnyH_take (i := 4) (v := ?v4) rfl (by kernel_rfl) (by kernel_rfl) (by kernel_rfl) (fun _ _ _ h => h) (Or.inl ⟨by rfl, ?hy4⟩) (by assumption) ?rest4
  case hy4 =>
    intro w hSw
    (try dsimp only at hSw)
    have hS1 := hSw.1
    have hS2 := hSw.2.1
    go_simp
    all_goals with_reducible rfl
  try simp only [Act.put]
  refine wpAnyH_take (i := 5) (v := ?v5) rfl (by kernel_rfl) (by kernel_rfl) (by kernel_rfl) (fun _ _ _ h => h) (Or.inl ⟨by rfl, ?hy5⟩) (by assumption) ?rest5
  case hy5 =>
    intro w hSw
    (try dsimp only at hSw)
    have hS1 := hSw.1
    have hS2 := hSw.2.1
    go_simp
    all_goals with_reducible rfl
  try simp only [Act.put]
  refine wpAnyH_take (i := 6) (v := ?v6) rfl (by kernel_rfl) (by kernel_rfl) (by kernel_rfl) (fun _ _ _ h => h) (Or.inl ⟨by rfl, ?hy6⟩) (by assumption) ?rest6
  case hy6 =>
    intro w hSw
    (try dsimp only at hSw)
    have hS1 := hSw.1
    have hS2 := hSw.2.1
    go_simp
    all_goals with_reducible rfl
  try simp only [Act.put]
  refine wpAnyH_ready (rs := [3, 9]) (by kernel_rfl) (by simp) ?_
  refine AllReadyH.cons rfl (fun K hK => ?_) ?_
  · go_simp
    go_wp2_with (go_at_call 31; refine num_p N1 ?_; intro w6 hb6)
    exact ⟨rfl, rfl, S.out _ (chain hb6 (chain (XNum.bel (by assumption)) hba))⟩
  refine AllReadyH.cons rfl (fun K hK => ?_) AllReadyH.nil
  go_simp
  refine hK.out _ _ (XNum.al (by assumption) _) (fun hHeld => ?_)
  clear hK K
  try simp only [Act.put, List.setIfInBounds_toArray, List.set_cons_zero, List.set_cons_succ]
  refine wpAnyH_ready (rs := [3]) (by kernel_rfl) (by simp) ?_
  refine AllReadyH.cons rfl (fun K hK => ?_) AllReadyH.nil
  go_simp
  go_wp2_with (go_at_call 31; refine num_p N1 ?_; intro w6 hb6)
  exact ⟨rfl, rfl, S.out _ (chain hb6 (chain (XNum.bel (by assumption)) hba))⟩

set_option maxRecDepth 100000 in
set_option maxHeartbeats 4000000 in
theorem deed_edit_no_q (w0 w : World) (gh gd b o c : Nat) (K : Nat → Prop) (P : List Pg) (x y z q : ByteArray) (h : LoneK w0 gh P K w) (hx : x = kEdit) (c0 : w.cell? ⟨b, o, none⟩ = some (.string x)) (c1 : w.cell? ⟨b, o + 1, none⟩ = some (.string y)) (c2 : w.cell? ⟨b, o + 2, none⟩ = some (.string z)) (c3 : w.cell? ⟨b, o + 3, none⟩ = some (.string q)) (hbs : b < w.heap.size) (hz : z.size ≤ 140737488351232) (hq : q.size ≤ 140737488351232) (u : Nat) (hu : numD z = some u) (hv : numD q = none) :
    Calls Tryz.prog 21 #[.pointer (some ⟨gd, 0, none⟩), .slice (some ⟨b, o, none⟩) 5 c] w fun e w' => e = .panicked (thrown 12) ∧ DeskTo w0 gh K w P w' := by
  have q1 : x.toList = [101, 100, 105, 116] := by rw [hx]; decide +kernel
  have bd : ∀ w, (Instr.build 70 #[(0, .int .i64 2), (2, .string y)]).run Tryz.prog w = .ok (.agg #[.int .i64 2, .int .i64 0, .string y, .string ⟨#[]⟩, .slice none 0 0]) w := fun w => run_build w 70 _ _ (by kernel_rfl)
  have S := Lib.hid (fun w' hb => DeskTo.stay (w' := w') h hb)
  have N1 := Lib.hid (num_yes hz hu)
  have N2 := Lib.hid (num_no hq hv)
  clear hx h hu hv
  go_enter Tryz.func21, Tryz.ntmps21
  go_upto_region 37 with fail
  obtain ⟨wa, hwa⟩ : ∃ wa, wa = w.alloc (Obj.cells #[.int .i64 2, .int .i64 0, .string y, .string ⟨#[]⟩, .slice none 0 0] 70) := ⟨_, rfl⟩
  have hba : Below w.heap.size w wa := by rw [hwa]; exact (Below.refl _ _).alloc (Nat.le_refl _) _
  have hwas : wa.heap.size = w.heap.size + 1 := by rw [hwa]; simp
  have cz : wa.cell? ⟨b, o + 2, none⟩ = some (.string z) := by rw [hba.cell hbs]; exact c2
  have cq : wa.cell? ⟨b, o + 3, none⟩ = some (.string q) := by rw [hba.cell hbs]; exact c3
  rw [← hwa]
  have K0 : XNum b o z q wa wa.drew := ⟨cz, cq, by omega, (Below.refl _ _).drew⟩
  clear hwa hwas c2 c3 cz cq
  refine wp_region_held_drew (S := fun w' => XNum b o z q wa w') (by kernel_rfl) K0 (fun hHeld => ?_)
  refine wpAnyH_take (i := 0) (v := ?v1) rfl (by kernel_rfl) (by kernel_rfl) (by kernel_rfl) (fun _ _ _ h => h) (Or.inl ⟨by rfl, ?hy1⟩) (by assumption) ?rest1
  case hy1 =>
    intro w hSw
    (try dsimp only at hSw)
    have hS1 := hSw.1
    have hS2 := hSw.2.1
    go_simp
    all_goals with_reducible rfl
  try simp only [Act.put]
  refine wpAnyH_take (i := 1) (v := ?v2) rfl (by kernel_rfl) (by kernel_rfl) (by kernel_rfl) (fun _ _ _ h => h) (Or.inl ⟨by rfl, ?hy2⟩) (by assumption) ?rest2
  case hy2 =>
    intro w hSw
    (try dsimp only at hSw)
    have hS1 := hSw.1
    have hS2 := hSw.2.1
    go_simp
    all_goals with_reducible rfl
  try simp only [Act.put]
  refine wpAnyH_take (i := 2) (v := ?v3) rfl (by kernel_rfl) (by kernel_rfl) (by kernel_rfl) (fun _ _ _ h => h) (Or.inl ⟨by rfl, ?hy3⟩) (by assumption) ?rest3
  case hy3 =>
    intro w hSw
    (try dsimp only at hSw)
    have hS1 := hSw.1
    have hS2 := hSw.2.1
    go_simp
    all_goals with_reducible rfl
  try simp only [Act.put]
  refine wpAnyH_take (i := 4) (v := ?v4) rfl (by kernel_rfl) (by kernel_rfl) (by kernel_rfl) (fun _ _ _ h => h) (Or.inl ⟨by rfl, ?hy4⟩) (by assumption) ?rest4
  case hy4 =>
    intro w hSw
    (try dsimp only at hSw)
    have hS1 := hSw.1
    have hS2 := hSw.2.1
    go_simp
    all_goals with_reducible rfl
  try simp only [Act.put]
  refine wpAnyH_take (i := 5) (v := ?v5) rfl (by kernel_rfl) (by kernel_rfl) (by kernel_rfl) (fun _ _ _ h => h) (Or.inl ⟨by rfl, ?hy5⟩) (by assumption) ?rest5
  case hy5 =>
    intro w hSw
    (try dsimp only at hSw)
    have hS1 := hSw.1
    have hS2 := hSw.2.1
    go_simp
    all_goals with_reducible rfl
  try simp only [Act.put]
  refine wpAnyH_take (i := 6) (v := ?v6) rfl (by kernel_rfl) (by kernel_rfl) (by kernel_rfl) (fun _ _ _ h => h) (Or.inl ⟨by rfl, ?hy6⟩) (by assumption) ?rest6
  case hy6 =>
    intro w hSw
    (try dsimp only at hSw)
    have hS1 := hSw.1
    have hS2 := hSw.2.1
    go_simp
    all_goals with_reducible rfl
  try simp only [Act.put]
  refine wpAnyH_ready (rs := [3, 9]) (by kernel_rfl) (by simp) ?_
  refine AllReadyH.cons rfl (fun K hK => ?_) ?_
  · go_simp
    go_wp2_with (go_at_call 31; refine num_k N1 ?_; intro w6 hb6)
    refine hK.out _ _ (XNum.on (by assumption) hb6) (fun hHeld => ?_)
    clear hK K
    try simp only [Act.put, List.setIfInBounds_toArray, List.set_cons_zero, List.set_cons_succ]
    refine wpAnyH_ready (rs := [7, 9]) (by kernel_rfl) (by simp) ?_
    refine AllReadyH.cons rfl (fun K hK => ?_) ?_
    · go_simp
      go_wp2_with (go_at_call 31; refine num_p N2 ?_; intro w6 hb6)
      exact ⟨rfl, rfl, S.out _ (chain hb6 (chain (XNum.bel (by assumption)) hba))⟩
    refine AllReadyH.cons rfl (fun K hK => ?_) AllReadyH.nil
    go_simp
    refine hK.out _ _ (XNum.al (by assumption) _) (fun hHeld => ?_)
    clear hK K
    try simp only [Act.put, List.setIfInBounds_toArray, List.set_cons_zero, List.set_cons_succ]
    refine wpAnyH_ready (rs := [7]) (by kernel_rfl) (by simp) ?_
    refine AllReadyH.cons rfl (fun K hK => ?_) AllReadyH.nil
    go_simp
    go_wp2_with (go_at_call 31; refine num_p N2 ?_; intro w6 hb6)
    exact ⟨rfl, rfl, S.out _ (chain hb6 (chain (XNum.bel (by assumption)) hba))⟩
  refine AllReadyH.cons rfl (fun K hK => ?_) AllReadyH.nil
  go_simp
  refine hK.out _ _ (XNum.al (by assumption) _) (fun hHeld => ?_)
  clear hK K
  try simp only [Act.put, List.setIfInBounds_toArray, List.set_cons_zero, List.set_cons_succ]
  refine wpAnyH_ready (rs := [3]) (by kernel_rfl) (by simp) ?_
  refine AllReadyH.cons rfl (fun K hK => ?_) AllReadyH.nil
  go_simp
  go_wp2_with (go_at_call 31; refine num_k N1 ?_; intro w6 hb6)
  refine hK.out _ _ (XNum.on (by assumption) hb6) (fun hHeld => ?_)
  clear hK K
  try simp only [Act.put, List.setIfInBounds_toArray, List.set_cons_zero, List.set_cons_succ]
  refine wpAnyH_ready (rs := [7]) (by kernel_rfl) (by simp) ?_
  refine AllReadyH.cons rfl (fun K hK => ?_) AllReadyH.nil
  go_simp
  go_wp2_with (go_at_call 31; refine num_p N2 ?_; intro w6 hb6)
  exact ⟨rfl, rfl, S.out _ (chain hb6 (chain (XNum.bel (by assumption)) hba))⟩
theorem deed_edit_no (w0 w : World) (gh gd b o c : Nat) (K : Nat → Prop) (P : List Pg) (x y z q : ByteArray) (h : LoneK w0 gh P K w) (hx : x = kEdit) (c0 : w.cell? ⟨b, o, none⟩ = some (.string x)) (c1 : w.cell? ⟨b, o + 1, none⟩ = some (.string y)) (c2 : w.cell? ⟨b, o + 2, none⟩ = some (.string z)) (c3 : w.cell? ⟨b, o + 3, none⟩ = some (.string q)) (hbs : b < w.heap.size) (hz : z.size ≤ 140737488351232) (hq : q.size ≤ 140737488351232) (hv : numD z = none ∨ numD q = none) :
    Calls Tryz.prog 21 #[.pointer (some ⟨gd, 0, none⟩), .slice (some ⟨b, o, none⟩) 5 c] w fun e w' => e = .panicked (thrown 12) ∧ DeskTo w0 gh K w P w' := by
  cases h1 : numD z with
  | none =>
    cases h2 : numD q with
    | none => exact deed_edit_no_zq w0 w gh gd b o c K P x y z q h hx c0 c1 c2 c3 hbs hz hq h1 h2
    | some v => exact deed_edit_no_z w0 w gh gd b o c K P x y z q h hx c0 c1 c2 c3 hbs hz hq h1 v h2
  | some u =>
    have h2 : numD q = none := hv.resolve_left fun h => by rw [h1] at h; cases h
    exact deed_edit_no_q w0 w gh gd b o c K P x y z q h hx c0 c1 c2 c3 hbs hz hq u h1 h2
end Go.Proofs.YtaogegpfapfchaaGreatDoor

