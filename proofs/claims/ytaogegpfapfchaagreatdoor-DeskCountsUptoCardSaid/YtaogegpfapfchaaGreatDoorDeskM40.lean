import Derived.Test.YtaogegpfapfchaaGreatDoorDeskM36
import Derived.Deep.RegionHeld3
import Derived.Deep.DeepCutAuto
import Derived.Sort.AtCall
/- Several texts in one: XDeskEdit. -/
/- The walk of the desk's deed: edits. -/
namespace Go.Proofs.YtaogegpfapfchaaGreatDoor
open Go.RowKit
set_option linter.unusedVariables false

set_option maxRecDepth 100000 in
set_option maxHeartbeats 4000000 in
theorem deed_edit (w0 w : World) (gh gd b o c : Nat) (K : Nat → Prop) (P : List Pg) (x y z q s : ByteArray) (h : LoneK w0 gh P K w) (ht : Tab w) (hd : Blk w gd 35 #[.pointer (some ⟨gh, 0, none⟩)]) (hK : K gd)
    (hx : x = kEdit) (c0 : w.cell? ⟨b, o, none⟩ = some (.string x)) (c1 : w.cell? ⟨b, o + 1, none⟩ = some (.string y)) (c2 : w.cell? ⟨b, o + 2, none⟩ = some (.string z)) (c3 : w.cell? ⟨b, o + 3, none⟩ = some (.string q)) (c4 : w.cell? ⟨b, o + 4, none⟩ = some (.string s)) (hbs : b < w.heap.size) (u v : Nat) (hz : z.size ≤ 140737488351232) (hq : q.size ≤ 140737488351232) (hs : s.size ≤ 140737488351232) (hu : numD z = some u) (hv : numD q = some v) (hy : y.size ≤ 140737488351232) :
    Calls Tryz.prog 21 #[.pointer (some ⟨gd, 0, none⟩), .slice (some ⟨b, o, none⟩) 5 c] w fun e w' => e = deedEnd (doneD 2 (houseD P ⟨2, 0, y, ⟨#[]⟩, [((u : Int), (v : Int), s)]⟩)) ∧ DeskTo w0 gh K w (houseD P ⟨2, 0, y, ⟨#[]⟩, [((u : Int), (v : Int), s)]⟩).2.2 w' := by
  have q1 : x.toList = [101, 100, 105, 116] := by rw [hx]; decide +kernel
  obtain ⟨⟨e0, e1⟩, hT⟩ := houseD_bd P ⟨2, 0, y, ⟨#[]⟩, [((u : Int), (v : Int), s)]⟩ h.lone.pg
  have hu9 := numD_le hu
  have hv9 := numD_le hv
  have D := Lib.hid (fun w1 hb Ad hr => do_desk (w1 := w1) h hb ht ⟨2, 0, y, ⟨#[]⟩, [((u : Int), (v : Int), s)]⟩ Ad 1 (deedAt_edit hu9 hv9 hs hy hr))
  have hlt := hd.lt
  have d0 := hd.cell 0
  have bd : ∀ w, (Instr.build 70 #[(0, .int .i64 2), (2, .string y)]).run Tryz.prog w = .ok (.agg #[.int .i64 2, .int .i64 0, .string y, .string ⟨#[]⟩, .slice none 0 0]) w := fun w => run_build w 70 _ _ (by kernel_rfl)
  have be : ∀ w, (Instr.build 73 #[(0, .int .i64 (u : Int)), (1, .int .i64 (v : Int))]).run Tryz.prog w = .ok (.agg #[.int .i64 (u : Int), .int .i64 (v : Int), .string ⟨#[]⟩]) w := fun w => run_build w 73 _ _ (by kernel_rfl)
  have N1 := Lib.hid (num_yes hz hu)
  have N2 := Lib.hid (num_yes hq hv)
  clear hx h ht hd hu hv
  generalize hR : houseD P ⟨2, 0, y, ⟨#[]⟩, [((u : Int), (v : Int), s)]⟩ = R at *
  obtain ⟨T, E, P'⟩ := R
  simp only at e0 e1 hT D ⊢
  have HR := Lib.hid hR
  clear hR
  have a1 : ∀ w, (Op.stringOp .add ⟨#[58]⟩ T).run Tryz.prog w = .ok (.string (⟨#[58]⟩ ++ T)) w := fun w => run_string_add_sum w _ _ (by show 1 + _ ≤ _; omega)
  go_enter Tryz.func21, Tryz.ntmps21
  go_upto_region 37 with fail
  obtain ⟨wa, hwa⟩ : ∃ wa, wa = w.alloc (Obj.cells #[.int .i64 2, .int .i64 0, .string y, .string ⟨#[]⟩, .slice none 0 0] 70) := ⟨_, rfl⟩
  have hba : Below w.heap.size w wa := by rw [hwa]; exact (Below.refl _ _).alloc (Nat.le_refl _) _
  have hbx : Blk wa w.heap.size 70 #[.int .i64 2, .int .i64 0, .string y, .string ⟨#[]⟩, .slice none 0 0] := by rw [hwa]; exact Blk.new w _ _
  have hwas : wa.heap.size = w.heap.size + 1 := by rw [hwa]; simp
  have cz : wa.cell? ⟨b, o + 2, none⟩ = some (.string z) := by rw [hba.cell hbs]; exact c2
  have cq : wa.cell? ⟨b, o + 3, none⟩ = some (.string q) := by rw [hba.cell hbs]; exact c3
  rw [← hwa]
  have HWS := Lib.hid hwas
  clear hwa hwas c2 c3
  go_cut [9] (fun p wx => ∃ g, p = .pointer (some ⟨g, 0, none⟩) ∧ wa.heap.size ≤ g ∧ Blk wx g 73 #[.int .i64 (u : Int), .int .i64 (v : Int), .string ⟨#[]⟩] ∧ Below wa.heap.size wa wx)
  case first =>
    have K0 : XNum b o z q wa wa.drew := ⟨cz, cq, by have := HWS.out; omega, (Below.refl _ _).drew⟩
    refine wp_region_held_drew (S := fun w' => XNum b o z q wa w') (by kernel_rfl) K0 (fun hHeld => ?_)
    refine wpAnyH_take (i := 0) (v := ?v1) rfl (by kernel_rfl) (by kernel_rfl) (by kernel_rfl) (fun _ _ _ h => h) (Or.inl ⟨by rfl, ?hy1⟩) (by assumption) ?rest1
    case hy1 =>
      intro w hSw
      (try dsimp only at hSw)
      have hS1 := hSw.1
      have hS2 := hSw.2.1
      go_simp
      all_goals with_reducible rfl
    try simp only [Act.put]
    refine wpAnyH_take (i := 1) (v := ?v2) rfl (by kernel_rfl) (by kernel_rfl) (by kernel_rfl) (fun _ _ _ h => h) (Or.inl ⟨by rfl, ?hy2⟩) (by assumption) ?rest2
    case hy2 =>
      intro w hSw
      (try dsimp only at hSw)
      have hS1 := hSw.1
      have hS2 := hSw.2.1
      go_simp
      all_goals with_reducible rfl
    try simp only [Act.put]
    refine wpAnyH_take (i := 2) (v := ?v3) rfl (by kernel_rfl) (by kernel_rfl) (by kernel_rfl) (fun _ _ _ h => h) (Or.inl ⟨by rfl, ?hy3⟩) (by assumption) ?rest3
    case hy3 =>
      intro w hSw
      (try dsimp only at hSw)
      have hS1 := hSw.1
      have hS2 := hSw.2.1
      go_simp
      all_goals with_reducible rfl
    try simp only [Act.put]
    refine wpAnyH_take (i := 4) (v := ?v4) rfl (by kernel_rfl) (by kernel_rfl) (by kernel_rfl) (fun _ _ _ h => h) (Or.inl ⟨by rfl, ?hy4⟩) (by assumption) ?rest4
    case hy4 =>
      intro w hSw
      (try dsimp only at hSw)
      have hS1 := hSw.1
      have hS2 := hSw.2.1
      go_simp
      all_goals with_reducible rfl
    try simp only [Act.put]
    refine wpAnyH_take (i := 5) (v := ?v5) rfl (by kernel_rfl) (by kernel_rfl) (by kernel_rfl) (fun _ _ _ h => h) (Or.inl ⟨by rfl, ?hy5⟩) (by assumption) ?rest5
    case hy5 =>
      intro w hSw
      (try dsimp only at hSw)
      have hS1 := hSw.1
      have hS2 := hSw.2.1
      go_simp
      all_goals with_reducible rfl
    try simp only [Act.put]
    refine wpAnyH_take (i := 6) (v := ?v6) rfl (by kernel_rfl) (by kernel_rfl) (by kernel_rfl) (fun _ _ _ h => h) (Or.inl ⟨by rfl, ?hy6⟩) (by assumption) ?rest6
    case hy6 =>
      intro w hSw
      (try dsimp only at hSw)
      have hS1 := hSw.1
      have hS2 := hSw.2.1
      go_simp
      all_goals with_reducible rfl
    try simp only [Act.put]
    refine wpAnyH_ready (rs := [3, 9]) (by kernel_rfl) (by simp) ?_
    refine AllReadyH.cons rfl (fun K hK => ?_) ?_
    · go_simp
      go_wp2_with (go_at_call 31; refine num_k N1 ?_; intro w6 hb3)
      refine hK.out _ _ (XNum.on K0 hb3) (fun H3 => ?_)
      clear hK K
      try simp only [Act.put, List.setIfInBounds_toArray, List.set_cons_zero, List.set_cons_succ]
      refine wpAnyH_ready (rs := [7, 9]) (by kernel_rfl) (by simp) ?_
      refine AllReadyH.cons rfl (fun K hK => ?_) ?_
      · go_simp
        go_wp2_with (go_at_call 31; refine num_k N2 ?_; intro w7 hb7)
        refine hK.out _ _ (XNum.on H3 hb7) (fun H7 => ?_)
        clear hK K
        try simp only [Act.put, List.setIfInBounds_toArray, List.set_cons_zero, List.set_cons_succ]
        refine wpAnyH_take (i := 8) (v := ?v101) rfl (by kernel_rfl) (by kernel_rfl) (by kernel_rfl) (fun _ _ _ h => h) (Or.inl ⟨by rfl, ?hy101⟩) (by assumption) ?rest101
        case hy101 =>
          intro w hSw
          (try dsimp only at hSw)
          have hS1 := hSw.1
          have hS2 := hSw.2.1
          go_simp
          all_goals with_reducible rfl
        try simp only [Act.put]
        refine wpAnyH_ready (rs := [9]) (by kernel_rfl) (by simp) ?_
        refine AllReadyH.cons rfl (fun K hK => ?_) AllReadyH.nil
        go_simp
        refine hK.out _ _ (XNum.al H7 _) (fun H9 => ?_)
        clear hK K
        try simp only [Act.put, List.setIfInBounds_toArray, List.set_cons_zero, List.set_cons_succ]
        refine wpAnyH_ready (rs := [10]) (by kernel_rfl) (by simp) ?_
        refine AllReadyH.cons rfl (fun K hK => ?_) AllReadyH.nil
        go_simp
        refine hK.out _ _ (XNum.al H7 _) (fun hHeld => ?_)
        clear hK K
        try simp only [Act.put, List.setIfInBounds_toArray, List.set_cons_zero, List.set_cons_succ]
        refine wpAnyH_done (by kernel_rfl) ?_ _
        go_wp2_with fail
        go_meet
        exact ⟨_, rfl, fin_al H7⟩
      refine AllReadyH.cons rfl (fun K hK => ?_) AllReadyH.nil
      go_simp
      refine hK.out _ _ (XNum.al H3 _) (fun H9 => ?_)
      clear hK K
      try simp only [Act.put, List.setIfInBounds_toArray, List.set_cons_zero, List.set_cons_succ]
      refine wpAnyH_ready (rs := [7]) (by kernel_rfl) (by simp) ?_
      refine AllReadyH.cons rfl (fun K hK => ?_) AllReadyH.nil
      go_simp
      go_wp2_with (go_at_call 31; refine num_k N2 ?_; intro w7 hb7)
      refine hK.out _ _ (XNum.on H9 hb7) (fun H7 => ?_)
      clear hK K
      try simp only [Act.put, List.setIfInBounds_toArray, List.set_cons_zero, List.set_cons_succ]
      have E7 : EdNew wa w7 w6.heap.size := new_on (wx := w6) H3 hb7
      refine wpAnyH_take (i := 8) (v := ?v103) rfl (by kernel_rfl) (by kernel_rfl) (by kernel_rfl) (fun _ _ _ h => h) (Or.inl ⟨by rfl, ?hy103⟩) (by assumption) ?rest103
      case hy103 =>
        intro w hSw
        (try dsimp only at hSw)
        have hS1 := hSw.1
        have hS2 := hSw.2.1
        go_simp
        all_goals with_reducible rfl
      try simp only [Act.put]
      refine wpAnyH_ready (rs := [10]) (by kernel_rfl) (by simp) ?_
      refine AllReadyH.cons rfl (fun K hK => ?_) AllReadyH.nil
      obtain ⟨y0, y1, y2, z0, z1, z2⟩ := E7.facts
      go_simp
      refine hK.out _ _ (XNum.st H7 E7.1 _ _ _) (fun hHeld => ?_)
      clear hK K
      try simp only [Act.put, List.setIfInBounds_toArray, List.set_cons_zero, List.set_cons_succ]
      refine wpAnyH_done (by kernel_rfl) ?_ _
      go_wp2_with fail
      go_meet
      exact ⟨_, rfl, fin_set H7 E7⟩
    refine AllReadyH.cons rfl (fun K hK => ?_) AllReadyH.nil
    go_simp
    refine hK.out _ _ (XNum.al K0 _) (fun H9 => ?_)
    clear hK K
    try simp only [Act.put, List.setIfInBounds_toArray, List.set_cons_zero, List.set_cons_succ]
    refine wpAnyH_ready (rs := [3]) (by kernel_rfl) (by simp) ?_
    refine AllReadyH.cons rfl (fun K hK => ?_) AllReadyH.nil
    go_simp
    go_wp2_with (go_at_call 31; refine num_k N1 ?_; intro w6 hb3)
    refine hK.out _ _ (XNum.on H9 hb3) (fun H3 => ?_)
    clear hK K
    try simp only [Act.put, List.setIfInBounds_toArray, List.set_cons_zero, List.set_cons_succ]
    have E3 : EdNew wa w6 wa.heap.size := new_on (wx := wa.drew) K0 hb3
    refine wpAnyH_ready (rs := [7]) (by kernel_rfl) (by simp) ?_
    refine AllReadyH.cons rfl (fun K hK => ?_) AllReadyH.nil
    go_simp
    go_wp2_with (go_at_call 31; refine num_k N2 ?_; intro w7 hb7)
    refine hK.out _ _ (XNum.on H3 hb7) (fun H7 => ?_)
    clear hK K
    try simp only [Act.put, List.setIfInBounds_toArray, List.set_cons_zero, List.set_cons_succ]
    have E7 := E3.on hb7
    refine wpAnyH_take (i := 8) (v := ?v104) rfl (by kernel_rfl) (by kernel_rfl) (by kernel_rfl) (fun _ _ _ h => h) (Or.inl ⟨by rfl, ?hy104⟩) (by assumption) ?rest104
    case hy104 =>
      intro w hSw
      (try dsimp only at hSw)
      have hS1 := hSw.1
      have hS2 := hSw.2.1
      go_simp
      all_goals with_reducible rfl
    try simp only [Act.put]
    refine wpAnyH_ready (rs := [10]) (by kernel_rfl) (by simp) ?_
    refine AllReadyH.cons rfl (fun K hK => ?_) AllReadyH.nil
    obtain ⟨y0, y1, y2, z0, z1, z2⟩ := E7.facts
    go_simp
    refine hK.out _ _ (XNum.st H7 E7.1 _ _ _) (fun hHeld => ?_)
    clear hK K
    try simp only [Act.put, List.setIfInBounds_toArray, List.set_cons_zero, List.set_cons_succ]
    refine wpAnyH_done (by kernel_rfl) ?_ _
    go_wp2_with fail
    go_meet
    exact ⟨_, rfl, fin_set H7 E7⟩
  case rest =>
    clear cz cq N1 N2
    obtain ⟨g, rfl, hg, hE, hbE⟩ := hcut
    have hbc := chain hbE hba
    have hXc := hbx.after hbE
    have hws := hXc.lt
    have hgs := hE.lt
    have hne : w.heap.size ≠ g := by have := HWS.out; omega
    have hne2 : g ≠ w.heap.size := fun e => hne e.symm
    have g0 := hE.cell 0
    have g1 := hE.cell 1
    have g2 := hE.cell 2
    have f2 := hE.frozen 2
    have x4 := hXc.cell 4
    have fx4 := hXc.frozen 4
    have c4c : wc.cell? ⟨b, o + 4, none⟩ = some (.string s) := by rw [hbc.cell hbs]; exact c4
    go_wp2_with fail
    obtain ⟨wb, hwb⟩ : ∃ wb, wb = ((wc.setCell ⟨g, 2, none⟩ (.string s)).setCell ⟨w.heap.size, 4, none⟩ (.slice (some ⟨wc.heap.size, 0, none⟩) 1 1)).alloc (Obj.cells #[.int .i64 (u : Int), .int .i64 (v : Int), .string s] 73) := ⟨_, rfl⟩
    have hbb : Below w.heap.size w wb := by
      rw [hwb]
      exact ((hbc.setCell (by show w.heap.size ≤ g; have := HWS.out; omega) _).setCell (Nat.le_refl _) _).alloc (by simp; omega) _
    have hxb : Blk wb w.heap.size 70 #[.int .i64 2, .int .i64 0, .string y, .string ⟨#[]⟩, .slice (some ⟨wc.heap.size, 0, none⟩) 1 1] := by
      rw [hwb]
      exact ((hXc.far (p := ⟨g, 2, none⟩) hne _).set_ 4 _).alloc _
    have hzz : ((wc.setCell ⟨g, 2, none⟩ (.string s)).setCell ⟨w.heap.size, 4, none⟩ (.slice (some ⟨wc.heap.size, 0, none⟩) 1 1)).heap.size = wc.heap.size := by simp
    have hrd : Reads wb wb.heap.size (some ⟨wc.heap.size, 0, none⟩) 1 3 [.int .i64 (u : Int), .int .i64 (v : Int), .string s] := by
      have hmade := Reads.made ((wc.setCell ⟨g, 2, none⟩ (.string s)).setCell ⟨w.heap.size, 4, none⟩ (.slice (some ⟨wc.heap.size, 0, none⟩) 1 1)) #[.int .i64 (u : Int), .int .i64 (v : Int), .string s] 73 1 3 rfl
      rw [hzz] at hmade
      rw [hwb]
      exact hmade
    have hsz : w.heap.size ≤ w.heap.size ∧ w.heap.size < wb.heap.size := ⟨Nat.le_refl _, hxb.lt⟩
    rw [← hwb]
    clear hwb hzz g0 g1 g2 f2 x4 fx4 hne hne2 hws hgs hXc hbc hE c4c c4 hbx hba hbE
    have x0 := hxb.cell 0
    have x1 := hxb.cell 1
    have x2 := hxb.cell 2
    have x3 := hxb.cell 3
    have x4 := hxb.cell 4
    have dw := d0
    have d0 : wb.cell? ⟨gd, 0, none⟩ = some (.pointer (some ⟨gh, 0, none⟩)) := by rw [hbb.cell hlt]; exact d0
    have D2 := D.out wb.drew hbb.drew (some ⟨wc.heap.size, 0, none⟩) hrd
    rw [show cDeed ⟨2, 0, y, ⟨#[]⟩, [((u : Int), (v : Int), s)]⟩ (some ⟨wc.heap.size, 0, none⟩) 1 = #[.int .i64 2, .int .i64 0, .string y, .string ⟨#[]⟩, .slice (some ⟨wc.heap.size, 0, none⟩) 1 1] from rfl] at D2
    have D2 := Lib.hid D2
    clear hrd
    go_region_held3 (fun w' => w'.cell? ⟨gd, 0, none⟩ = some (.pointer (some ⟨gh, 0, none⟩)) ∧ w'.cell? ⟨w.heap.size, 0, none⟩ = some (.int .i64 2) ∧ w'.cell? ⟨w.heap.size, 1, none⟩ = some (.int .i64 0) ∧ w'.cell? ⟨w.heap.size, 2, none⟩ = some (.string y) ∧ w'.cell? ⟨w.heap.size, 3, none⟩ = some (.string ⟨#[]⟩) ∧ w'.cell? ⟨w.heap.size, 4, none⟩ = some (.slice (some ⟨wc.heap.size, 0, none⟩) 1 1)) (first | exact ⟨d0, x0, x1, x2, x3, x4⟩ | assumption)
      ((first | (go_at_call 32; (with_reducible refine D2.out.mono ?_); rintro e w2 ⟨rfl, hd2, hk2⟩; have hs := deed_back hd2 hk2 hK hsz dw hxb)))
    all_goals
      clear hs D D2 hk2 x0 x1 x2 x3 x4 hxb hbb
      by_cases hE : E = 0
      · subst hE
        have M := Lib.hid must_ok
        go_wp2_with fail
        refine (M.out _).mono ?_
        rintro e w3 ⟨rfl, rfl⟩
        go_wp2
        go_ret2
        exact ⟨by rw [doneD_ok rfl]; rfl, hd2⟩
      · have M := Lib.hid (must_no E hE)
        go_wp2_with fail
        refine (M.out _).mono ?_
        rintro e w3 ⟨rfl, rfl⟩
        refine ⟨rfl, ?_, hd2⟩
        rw [doneD_no hE]
        show _ = Ending.panicked (thrown (E.toNat : Int))
        rw [Int.toNat_of_nonneg e0]
end Go.Proofs.YtaogegpfapfchaaGreatDoor

