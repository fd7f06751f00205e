import Derived.Test.YtaogegpfapfchaaGreatDoorDeskM19
import Derived.Deep.RegionHeld3
import Derived.BigQuiet
import Derived.Test.YtaogegpfapfchaaGreatDoorDeskM01
/- Several texts in one: XHouseStep XHousePack XHouseName XDeskNum. -/
/- The walk of a page's step. -/
namespace Go.Proofs.YtaogegpfapfchaaGreatDoor
open Go.RowKit
set_option linter.unusedVariables false

theorem EdIn.after {own : Nat → Nat} {w w' : World} {ge : Nat} {t : ByteArray} {B O : List ByteArray} (h : EdIn own w ge t B O) (hb : Below w.heap.size w w') : EdIn own w' ge t B O := h.apart (Goes.of_below (S := fun _ => False) hb) (fun h => h)
theorem LeafIn.after {own : Nat → Nat} {w w' : World} {gl g j : Nat} {t : ByteArray} {H : LH} (h : LeafIn own w gl g t H j) (hb : Below w.heap.size w w') : LeafIn own w' gl g t H j := ⟨h.at_.after hb, h.ol, h.og⟩
theorem RowAt.after {own : Nat → Nat} {w w' : World} {gp o : Nat} {x : Pl} {name : ByteArray} (h : RowAt own w gp o x name) (hb : Below w.heap.size w w') : RowAt own w' gp o x name := h.apart (Goes.of_below (S := fun _ => False) hb) (fun h => h)

theorem first_drew {B : Nat} {w : World} (h : Below B w w) : Below B w w.drew := h.drew

set_option maxHeartbeats 1000000 in
theorem pageBack (own : Nat → Nat) (w : World) (x : Pl) (p : Pg) (gp o : Nat) (hr : RowAt own w gp o x p.name) (h : PageAt own w x p) :
    Calls Tryz.prog 58 #[.pointer (some ⟨gp, o, none⟩), .bool true] w fun e w' => ∃ own', e = .returned (.int .i64 (backP p).1) ∧ PageAt own' w' x (backP p).2 ∧ Goes own own' (ofPl x) w w' := by
  have c1 := hr.c1
  have c2 := hr.c2
  have eu := enters_of Tryz.func97 (by kernel_rfl) rfl
  have er := enters_of Tryz.func98 (by kernel_rfl) rfl
  rcases List.eq_nil_or_concat p.B with hB | ⟨B, t, hB⟩
  · have e1 : backP p = (4, p) := by unfold backP; rw [if_pos hB]
    rw [e1]
    have hed := h.ed
    rw [hB] at hed
    have U := Lib.hid (fun w (h : EdIn own w x.ge p.t [] p.O) => undo_no x.ge p.t p.O _ w h)
    clear e1
    go_enter Tryz.func58, Tryz.ntmps58
    go_wp2
    go_quiet (fail)
    have hd : Below w.heap.size w (w.drewN nq) := below_drewN (Below.refl _ _) _
    go_wp2_with fail
    refine (U.out _ (hed.after hd)).mono ?_
    rintro e w1 ⟨rfl, hb1⟩
    have hb1 := chain hb1 hd
    go_wp2
    go_ret
    exact ⟨own, rfl, h.apart (Goes.of_below (S := fun _ => False) hb1) (fun h => h) (fun h => h), Goes.of_below hb1⟩
  rw [List.concat_eq_append] at hB
  have hlast : p.B.getLastD ⟨#[]⟩ = t := by rw [hB]; simp
  have hdrop : p.B.dropLast = B := by rw [hB]; simp
  have hne : p.B ≠ [] := by rw [hB]; simp
  have htz : t.size ≤ 200 := h.ok.back t (by rw [hB]; simp)
  have hfew : B.length + 1 + p.O.length ≤ 30 := by have := h.ok.few; rw [hB, List.length_append, List.length_singleton] at this; exact this
  have hBk : ∀ t ∈ B, t.size ≤ 200 := fun y hy => h.ok.back y (by rw [hB]; exact List.mem_append_left _ hy)
  have hed := h.ed
  rw [hB] at hed
  have U := Lib.hid (fun w (h : EdIn own w x.ge p.t (B ++ [t]) p.O) => undo_yes x.ge p.t B p.O t _ w (fun k hk => hk.1) (by omega) (by omega) h)
  have hr0 := hr
  by_cases hf : fits p.H t
  · have e1 : backP p = (0, { p with t := t, B := B, O := p.O ++ [p.t], H := p.H ++ [(98 :: t.data.toList, t)] }) := by unfold backP; rw [if_neg hne, hlast, if_pos hf, hdrop]
    rw [e1]
    clear e1
    go_enter Tryz.func58, Tryz.ntmps58
    go_wp2
    go_quiet (fail)
    have hd : Below w.heap.size w (w.drewN nq) := below_drewN (Below.refl _ _) _
    go_wp2_with fail
    refine (U.out _ (hed.after hd)).mono ?_
    rintro e w1 ⟨rfl, hed1, hk1⟩
    obtain ⟨hed1, hg1⟩ := EdIn.kept hed1 hk1
    have hr1 := (hr.after hd).apart hg1 hr.ne1
    have hl1 := (h.leaf.after hd).apart hg1 (fun e => h.ne e.symm)
    have hg1 := (Goes.of_below (own := own) (S := (· = x.ge)) hd).trans hg1
    generalize updO own _ x.ge = own1 at *
    have T := Lib.hid (fun W (hb : Below w1.heap.size w1 W) => text_any x.ge t B (p.O ++ [p.t]) _ W (hed1.after hb))
    have d1 := hr1.c1
    have d2 := hr1.c2
    have n1 : gp ≠ x.gl := fun e => hr1.ne2 (by rw [e]; exact hl1.ol)
    have n2 : gp ≠ x.g := fun e => hr1.ne2 (by rw [e]; exact hl1.og)
    have S := Lib.hid (fun W (hb : Below w1.heap.size w1 W) => (leafSet_any x.gl x.g p.j p.t p.H t htz W (hl1.after hb).at_).mono fun e w' (h : Only2 x.gl x.g W w' ∧ ((fits p.H t ∧ e = .returned (.int .i64 0) ∧ LeafAt w' x.gl x.g t (p.H ++ [(98 :: t.data.toList, t)]) p.j) ∨ (¬ fits p.H t ∧ e = .returned (.int .i64 11) ∧ LeafAt w' x.gl x.g p.t p.H p.j))) =>
      (show e = .returned (.int .i64 0) ∧ LeafAt w' x.gl x.g t (p.H ++ [(98 :: t.data.toList, t)]) p.j ∧ Only2 x.gl x.g W w' ∧ w'.cell? ⟨gp, o + 1, none⟩ = some (.pointer (some ⟨x.ge, 0, none⟩)) ∧ w'.cell? ⟨gp, o + 2, none⟩ = some (.pointer (some ⟨x.gl, 0, none⟩)) from by
        have hbk := (h.1.block gp (Nat.lt_of_lt_of_le hr1.lt hb.size) n1 n2).trans (hb.block gp hr1.lt)
        rcases h.2 with ⟨_, h1, h2⟩ | ⟨h1, _⟩
        · exact ⟨h1, h2, h.1, by rw [← d1]; simp only [World.cell?, hbk], by rw [← d2]; simp only [World.cell?, hbk]⟩
        · exact absurd hf h1))
    clear U c1 c2 hk1
    go_wp2
    have hbw := Below.refl w1.heap.size w1
    go_region_held3 (fun w' => w'.cell? ⟨gp, o + 1, none⟩ = some (.pointer (some ⟨x.ge, 0, none⟩)) ∧ w'.cell? ⟨gp, o + 2, none⟩ = some (.pointer (some ⟨x.gl, 0, none⟩))) (first | exact ⟨d1, d2⟩ | exact ⟨by assumption, by assumption⟩)
      (first
        | (go_at_call 57; refine (T.out _ (first_drew hbw)).mono ?_; rintro e w2 ⟨rfl, rfl⟩)
        | (go_at_call 99; refine (S.out _ (first_drew hbw)).mono ?_; rintro e w2 ⟨rfl, hl2, ho2, k1, k2⟩))
    have hdw := first_drew hbw
    obtain ⟨hlf, hg2⟩ := (hl1.after hdw).goes hl2 ho2
    have hg2 := (Goes.of_below (own := own1) (S := (· = x.gl)) hdw).trans hg2
    have hed2 := hed1.apart hg2 h.ne
    go_wp2
    go_ret
    refine ⟨_, rfl, ⟨hed2, hlf, h.ne, okOf hlf.at_ ?_ hBk ?_⟩, (hg1.wide fun k hk => .inl hk).trans (hg2.wide fun k hk => .inr hk)⟩
    · show B.length + (p.O ++ [p.t]).length ≤ 30
      rw [List.length_append, List.length_singleton]; omega
    · intro y hy
      rcases List.mem_append.1 hy with h1 | h1
      · exact h.ok.onward y h1
      · rw [List.mem_singleton.1 h1]; exact h.ok.text
  · have e1 : backP p = (11, p) := by unfold backP; rw [if_neg hne, hlast, if_neg hf]
    rw [e1]
    clear e1
    go_enter Tryz.func58, Tryz.ntmps58
    go_wp2
    go_quiet (fail)
    have hd : Below w.heap.size w (w.drewN nq) := below_drewN (Below.refl _ _) _
    go_wp2_with fail
    refine (U.out _ (hed.after hd)).mono ?_
    rintro e w1 ⟨rfl, hed1, hk1⟩
    obtain ⟨hed1, hg1⟩ := EdIn.kept hed1 hk1
    have hr1 := (hr.after hd).apart hg1 hr.ne1
    have hl1 := (h.leaf.after hd).apart hg1 (fun e => h.ne e.symm)
    have hg1 := (Goes.of_below (own := own) (S := (· = x.ge)) hd).trans hg1
    generalize updO own _ x.ge = own1 at *
    have T := Lib.hid (fun W (hb : Below w1.heap.size w1 W) => text_any x.ge t B (p.O ++ [p.t]) _ W (hed1.after hb))
    have d1 := hr1.c1
    have d2 := hr1.c2
    have n1 : gp ≠ x.gl := fun e => hr1.ne2 (by rw [e]; exact hl1.ol)
    have n2 : gp ≠ x.g := fun e => hr1.ne2 (by rw [e]; exact hl1.og)
    have S := Lib.hid (fun W (hb : Below w1.heap.size w1 W) => (leafSet_any x.gl x.g p.j p.t p.H t htz W (hl1.after hb).at_).mono fun e w' (h : Only2 x.gl x.g W w' ∧ ((fits p.H t ∧ e = .returned (.int .i64 0) ∧ LeafAt w' x.gl x.g t (p.H ++ [(98 :: t.data.toList, t)]) p.j) ∨ (¬ fits p.H t ∧ e = .returned (.int .i64 11) ∧ LeafAt w' x.gl x.g p.t p.H p.j))) =>
      (show e = .returned (.int .i64 11) ∧ LeafAt w' x.gl x.g p.t p.H p.j ∧ Only2 x.gl x.g W w' ∧ w'.cell? ⟨gp, o + 1, none⟩ = some (.pointer (some ⟨x.ge, 0, none⟩)) ∧ w'.cell? ⟨gp, o + 2, none⟩ = some (.pointer (some ⟨x.gl, 0, none⟩)) from by
        have hbk := (h.1.block gp (Nat.lt_of_lt_of_le hr1.lt hb.size) n1 n2).trans (hb.block gp hr1.lt)
        rcases h.2 with ⟨h1, _⟩ | ⟨_, h1, h2⟩
        · exact absurd h1 hf
        · exact ⟨h1, h2, h.1, by rw [← d1]; simp only [World.cell?, hbk], by rw [← d2]; simp only [World.cell?, hbk]⟩))
    clear U c1 c2 hk1
    go_wp2
    have hbw := Below.refl w1.heap.size w1
    go_region_held3 (fun w' => w'.cell? ⟨gp, o + 1, none⟩ = some (.pointer (some ⟨x.ge, 0, none⟩)) ∧ w'.cell? ⟨gp, o + 2, none⟩ = some (.pointer (some ⟨x.gl, 0, none⟩))) (first | exact ⟨d1, d2⟩ | exact ⟨by assumption, by assumption⟩)
      (first
        | (go_at_call 57; refine (T.out _ (first_drew hbw)).mono ?_; rintro e w2 ⟨rfl, rfl⟩)
        | (go_at_call 99; refine (S.out _ (first_drew hbw)).mono ?_; rintro e w2 ⟨rfl, hl2, ho2, k1, k2⟩))
    have hdw := first_drew hbw
    obtain ⟨hlf, hg2⟩ := (hl1.after hdw).goes hl2 ho2
    have hg2 := (Goes.of_below (own := own1) (S := (· = x.gl)) hdw).trans hg2
    have hed2 := hed1.apart hg2 h.ne
    have R := Lib.hid (redo_yes x.ge t B p.O p.t _ w2 (fun k hk => hk.1) (by omega) (by omega) hed2)
    clear T S
    go_wp2_with fail
    refine R.out.mono ?_
    rintro e w3 ⟨rfl, hed3, hk3⟩
    obtain ⟨hed3, hg3⟩ := EdIn.kept hed3 hk3
    rw [← hB] at hed3
    have hlf3 := hlf.apart hg3 (fun e => h.ne e.symm)
    go_wp2
    go_ret
    exact ⟨_, rfl, ⟨hed3, hlf3, h.ne, h.ok⟩, ((hg1.wide fun k hk => .inl hk).trans (hg2.wide fun k hk => .inr hk)).trans (hg3.wide fun k hk => .inl hk)⟩
set_option maxHeartbeats 1000000 in
theorem pageOn (own : Nat → Nat) (w : World) (x : Pl) (p : Pg) (gp o : Nat) (hr : RowAt own w gp o x p.name) (h : PageAt own w x p) :
    Calls Tryz.prog 58 #[.pointer (some ⟨gp, o, none⟩), .bool false] w fun e w' => ∃ own', e = .returned (.int .i64 (onP p).1) ∧ PageAt own' w' x (onP p).2 ∧ Goes own own' (ofPl x) w w' := by
  have c1 := hr.c1
  have c2 := hr.c2
  have eu := enters_of Tryz.func97 (by kernel_rfl) rfl
  have er := enters_of Tryz.func98 (by kernel_rfl) rfl
  rcases List.eq_nil_or_concat p.O with hB | ⟨B, t, hB⟩
  · have e1 : onP p = (4, p) := by unfold onP; rw [if_pos hB]
    rw [e1]
    have hed := h.ed
    rw [hB] at hed
    have U := Lib.hid (fun w (h : EdIn own w x.ge p.t p.B []) => redo_no x.ge p.t p.B _ w h)
    clear e1
    go_enter Tryz.func58, Tryz.ntmps58
    go_wp2
    go_quiet (fail)
    have hd : Below w.heap.size w (w.drewN nq) := below_drewN (Below.refl _ _) _
    go_wp2_with fail
    refine (U.out _ (hed.after hd)).mono ?_
    rintro e w1 ⟨rfl, hb1⟩
    have hb1 := chain hb1 hd
    go_wp2
    go_ret
    exact ⟨own, rfl, h.apart (Goes.of_below (S := fun _ => False) hb1) (fun h => h) (fun h => h), Goes.of_below hb1⟩
  rw [List.concat_eq_append] at hB
  have hlast : p.O.getLastD ⟨#[]⟩ = t := by rw [hB]; simp
  have hdrop : p.O.dropLast = B := by rw [hB]; simp
  have hne : p.O ≠ [] := by rw [hB]; simp
  have htz : t.size ≤ 200 := h.ok.onward t (by rw [hB]; simp)
  have hfew : p.B.length + (B.length + 1) ≤ 30 := by have := h.ok.few; rw [hB, List.length_append, List.length_singleton] at this; exact this
  have hBk : ∀ t ∈ B, t.size ≤ 200 := fun y hy => h.ok.onward y (by rw [hB]; exact List.mem_append_left _ hy)
  have hed := h.ed
  rw [hB] at hed
  have U := Lib.hid (fun w (h : EdIn own w x.ge p.t p.B (B ++ [t])) => redo_yes x.ge p.t p.B B t _ w (fun k hk => hk.1) (by omega) (by omega) h)
  have hr0 := hr
  by_cases hf : fits p.H t
  · have e1 : onP p = (0, { p with t := t, O := B, B := p.B ++ [p.t], H := p.H ++ [(98 :: t.data.toList, t)] }) := by unfold onP; rw [if_neg hne, hlast, if_pos hf, hdrop]
    rw [e1]
    clear e1
    go_enter Tryz.func58, Tryz.ntmps58
    go_wp2
    go_quiet (fail)
    have hd : Below w.heap.size w (w.drewN nq) := below_drewN (Below.refl _ _) _
    go_wp2_with fail
    refine (U.out _ (hed.after hd)).mono ?_
    rintro e w1 ⟨rfl, hed1, hk1⟩
    obtain ⟨hed1, hg1⟩ := EdIn.kept hed1 hk1
    have hr1 := (hr.after hd).apart hg1 hr.ne1
    have hl1 := (h.leaf.after hd).apart hg1 (fun e => h.ne e.symm)
    have hg1 := (Goes.of_below (own := own) (S := (· = x.ge)) hd).trans hg1
    generalize updO own _ x.ge = own1 at *
    have T := Lib.hid (fun W (hb : Below w1.heap.size w1 W) => text_any x.ge t (p.B ++ [p.t]) B _ W (hed1.after hb))
    have d1 := hr1.c1
    have d2 := hr1.c2
    have n1 : gp ≠ x.gl := fun e => hr1.ne2 (by rw [e]; exact hl1.ol)
    have n2 : gp ≠ x.g := fun e => hr1.ne2 (by rw [e]; exact hl1.og)
    have S := Lib.hid (fun W (hb : Below w1.heap.size w1 W) => (leafSet_any x.gl x.g p.j p.t p.H t htz W (hl1.after hb).at_).mono fun e w' (h : Only2 x.gl x.g W w' ∧ ((fits p.H t ∧ e = .returned (.int .i64 0) ∧ LeafAt w' x.gl x.g t (p.H ++ [(98 :: t.data.toList, t)]) p.j) ∨ (¬ fits p.H t ∧ e = .returned (.int .i64 11) ∧ LeafAt w' x.gl x.g p.t p.H p.j))) =>
      (show e = .returned (.int .i64 0) ∧ LeafAt w' x.gl x.g t (p.H ++ [(98 :: t.data.toList, t)]) p.j ∧ Only2 x.gl x.g W w' ∧ w'.cell? ⟨gp, o + 1, none⟩ = some (.pointer (some ⟨x.ge, 0, none⟩)) ∧ w'.cell? ⟨gp, o + 2, none⟩ = some (.pointer (some ⟨x.gl, 0, none⟩)) from by
        have hbk := (h.1.block gp (Nat.lt_of_lt_of_le hr1.lt hb.size) n1 n2).trans (hb.block gp hr1.lt)
        rcases h.2 with ⟨_, h1, h2⟩ | ⟨h1, _⟩
        · exact ⟨h1, h2, h.1, by rw [← d1]; simp only [World.cell?, hbk], by rw [← d2]; simp only [World.cell?, hbk]⟩
        · exact absurd hf h1))
    clear U c1 c2 hk1
    go_wp2
    have hbw := Below.refl w1.heap.size w1
    go_region_held3 (fun w' => w'.cell? ⟨gp, o + 1, none⟩ = some (.pointer (some ⟨x.ge, 0, none⟩)) ∧ w'.cell? ⟨gp, o + 2, none⟩ = some (.pointer (some ⟨x.gl, 0, none⟩))) (first | exact ⟨d1, d2⟩ | exact ⟨by assumption, by assumption⟩)
      (first
        | (go_at_call 57; refine (T.out _ (first_drew hbw)).mono ?_; rintro e w2 ⟨rfl, rfl⟩)
        | (go_at_call 99; refine (S.out _ (first_drew hbw)).mono ?_; rintro e w2 ⟨rfl, hl2, ho2, k1, k2⟩))
    have hdw := first_drew hbw
    obtain ⟨hlf, hg2⟩ := (hl1.after hdw).goes hl2 ho2
    have hg2 := (Goes.of_below (own := own1) (S := (· = x.gl)) hdw).trans hg2
    have hed2 := hed1.apart hg2 h.ne
    go_wp2
    go_ret
    refine ⟨_, rfl, ⟨hed2, hlf, h.ne, okOf hlf.at_ ?_ ?_ hBk⟩, (hg1.wide fun k hk => .inl hk).trans (hg2.wide fun k hk => .inr hk)⟩
    · show (p.B ++ [p.t]).length + B.length ≤ 30
      rw [List.length_append, List.length_singleton]; omega
    · intro y hy
      rcases List.mem_append.1 hy with h1 | h1
      · exact h.ok.back y h1
      · rw [List.mem_singleton.1 h1]; exact h.ok.text
  · have e1 : onP p = (11, p) := by unfold onP; rw [if_neg hne, hlast, if_neg hf]
    rw [e1]
    clear e1
    go_enter Tryz.func58, Tryz.ntmps58
    go_wp2
    go_quiet (fail)
    have hd : Below w.heap.size w (w.drewN nq) := below_drewN (Below.refl _ _) _
    go_wp2_with fail
    refine (U.out _ (hed.after hd)).mono ?_
    rintro e w1 ⟨rfl, hed1, hk1⟩
    obtain ⟨hed1, hg1⟩ := EdIn.kept hed1 hk1
    have hr1 := (hr.after hd).apart hg1 hr.ne1
    have hl1 := (h.leaf.after hd).apart hg1 (fun e => h.ne e.symm)
    have hg1 := (Goes.of_below (own := own) (S := (· = x.ge)) hd).trans hg1
    generalize updO own _ x.ge = own1 at *
    have T := Lib.hid (fun W (hb : Below w1.heap.size w1 W) => text_any x.ge t (p.B ++ [p.t]) B _ W (hed1.after hb))
    have d1 := hr1.c1
    have d2 := hr1.c2
    have n1 : gp ≠ x.gl := fun e => hr1.ne2 (by rw [e]; exact hl1.ol)
    have n2 : gp ≠ x.g := fun e => hr1.ne2 (by rw [e]; exact hl1.og)
    have S := Lib.hid (fun W (hb : Below w1.heap.size w1 W) => (leafSet_any x.gl x.g p.j p.t p.H t htz W (hl1.after hb).at_).mono fun e w' (h : Only2 x.gl x.g W w' ∧ ((fits p.H t ∧ e = .returned (.int .i64 0) ∧ LeafAt w' x.gl x.g t (p.H ++ [(98 :: t.data.toList, t)]) p.j) ∨ (¬ fits p.H t ∧ e = .returned (.int .i64 11) ∧ LeafAt w' x.gl x.g p.t p.H p.j))) =>
      (show e = .returned (.int .i64 11) ∧ LeafAt w' x.gl x.g p.t p.H p.j ∧ Only2 x.gl x.g W w' ∧ w'.cell? ⟨gp, o + 1, none⟩ = some (.pointer (some ⟨x.ge, 0, none⟩)) ∧ w'.cell? ⟨gp, o + 2, none⟩ = some (.pointer (some ⟨x.gl, 0, none⟩)) from by
        have hbk := (h.1.block gp (Nat.lt_of_lt_of_le hr1.lt hb.size) n1 n2).trans (hb.block gp hr1.lt)
        rcases h.2 with ⟨h1, _⟩ | ⟨_, h1, h2⟩
        · exact absurd h1 hf
        · exact ⟨h1, h2, h.1, by rw [← d1]; simp only [World.cell?, hbk], by rw [← d2]; simp only [World.cell?, hbk]⟩))
    clear U c1 c2 hk1
    go_wp2
    have hbw := Below.refl w1.heap.size w1
    go_region_held3 (fun w' => w'.cell? ⟨gp, o + 1, none⟩ = some (.pointer (some ⟨x.ge, 0, none⟩)) ∧ w'.cell? ⟨gp, o + 2, none⟩ = some (.pointer (some ⟨x.gl, 0, none⟩))) (first | exact ⟨d1, d2⟩ | exact ⟨by assumption, by assumption⟩)
      (first
        | (go_at_call 57; refine (T.out _ (first_drew hbw)).mono ?_; rintro e w2 ⟨rfl, rfl⟩)
        | (go_at_call 99; refine (S.out _ (first_drew hbw)).mono ?_; rintro e w2 ⟨rfl, hl2, ho2, k1, k2⟩))
    have hdw := first_drew hbw
    obtain ⟨hlf, hg2⟩ := (hl1.after hdw).goes hl2 ho2
    have hg2 := (Goes.of_below (own := own1) (S := (· = x.gl)) hdw).trans hg2
    have hed2 := hed1.apart hg2 h.ne
    have R := Lib.hid (undo_yes x.ge t p.B B p.t _ w2 (fun k hk => hk.1) (by omega) (by omega) hed2)
    clear T S
    go_wp2_with fail
    refine R.out.mono ?_
    rintro e w3 ⟨rfl, hed3, hk3⟩
    obtain ⟨hed3, hg3⟩ := EdIn.kept hed3 hk3
    rw [← hB] at hed3
    have hlf3 := hlf.apart hg3 (fun e => h.ne e.symm)
    go_wp2
    go_ret
    exact ⟨_, rfl, ⟨hed3, hlf3, h.ne, h.ok⟩, ((hg1.wide fun k hk => .inl hk).trans (hg2.wide fun k hk => .inr hk)).trans (hg3.wide fun k hk => .inl hk)⟩
end Go.Proofs.YtaogegpfapfchaaGreatDoor

/- The walk of a page's pack. -/
namespace Go.Proofs.YtaogegpfapfchaaGreatDoor
open Go.RowKit
set_option linter.unusedVariables false

theorem leafPack_arg (a : Value) (n : Int) (hn : n < 0 ∨ 3 < n) (w : World) : Calls Tryz.prog 101 #[a, .int .i64 n] w fun e w' => e = .returned (.int .i64 1) ∧ w = w' := by
  by_cases h0 : n < 0
  · have q1 : decide (n < 0) = true := decide_eq_true h0
    go_enter Tryz.func101, Tryz.ntmps101
    go_wp2
    go_ret
    exact ⟨rfl, rfl⟩
  · have q1 : decide (n < 0) = false := decide_eq_false h0
    have q2 : decide (3 < n) = true := decide_eq_true (by omega)
    go_enter Tryz.func101, Tryz.ntmps101
    go_wp2
    go_ret
    exact ⟨rfl, rfl⟩
/-- What a page's operation comes to: the page's parts, and the one cell of the row that may turn. -/
def PageTo (own : Nat → Nat) (w : World) (gp o : Nat) (x : Pl) (p' : Pg) (w' : World) : Prop :=
  ∃ own' x' w1, PageAt own' w' x' p' ∧ Goes own own' (ofPl x) w w1 ∧ x'.gl = x.gl ∧ (w' = w1 ∧ x'.ge = x.ge ∨ w' = w1.setCell ⟨gp, o + 1, none⟩ (.pointer (some ⟨x'.ge, 0, none⟩)) ∧ w.heap.size ≤ x'.ge)
theorem PageTo.stay {own own' : Nat → Nat} {w w' : World} {gp o : Nat} {x : Pl} {p' : Pg} (h : PageAt own' w' x p') (hg : Goes own own' (ofPl x) w w') : PageTo own w gp o x p' w' := ⟨own', x, w', h, hg, rfl, .inl ⟨rfl, rfl⟩⟩
theorem Goes.set_ {own : Nat → Nat} {w : World} (a : Addr) (u : Value) : Goes own own (· = own a.block) w (w.setCell a u) :=
  ⟨rfl, rfl, rfl, by rw [size_setCell]; exact Nat.le_refl _, fun k hk hn => Below.heap_setCell w a u k (by rintro rfl; exact hn rfl), fun _ _ => rfl⟩
/-- A new editor of what the leaf has, put into the page. -/
theorem fresh_ed {own own1 : Nat → Nat} {w w1 w2 : World} {gp o : Nat} {x x1 : Pl} {p : Pg} (hgl : x1.gl = x.gl) (hlt : gp < w.heap.size) (hgh : own gp < w.heap.size) (hne : own gp ≠ x.gl) (hg : Goes own own1 (ofPl x) w w1) (hlf : LeafIn own1 w1 x1.gl x1.g p.t p.H p.j) (hB : p.B = []) (hO : p.O = [])
    (hed : EdAt w2 (fun k => k < w1.heap.size) w1.heap.size p.t [] []) (hb : Below w1.heap.size w1 w2) :
    PageTo own w gp o x p (w2.setCell ⟨gp, o + 1, none⟩ (.pointer (some ⟨w1.heap.size, 0, none⟩))) := by
  have hg2 : Goes own1 (updO own1 w1.heap.size w1.heap.size) (ofPl x) w1 w2 := Goes.of_belowU hb _
  have hed2 : EdIn (updO own1 w1.heap.size w1.heap.size) w2 w1.heap.size p.t p.B p.O := by
    rw [hB, hO]
    refine EdAt.weak hed fun k ⟨h1, h2⟩ => .inl ?_
    rcases Nat.lt_or_ge k w1.heap.size with h | h
    · exact h
    · exact absurd (updO_ge own1 h) h2
  have hlf2 : LeafIn (updO own1 w1.heap.size w1.heap.size) w2 x1.gl x1.g p.t p.H p.j := hlf.apart (Goes.of_belowU (S := fun _ => False) hb _) (fun h => h)
  have hgp : updO own1 w1.heap.size w1.heap.size gp = own gp := by rw [updO_lt own1 (Nat.lt_of_lt_of_le hlt hg.size)]; exact hg.same gp hlt
  have hs := Goes.set_ (own := updO own1 w1.heap.size w1.heap.size) (w := w2) ⟨gp, o + 1, none⟩ (.pointer (some ⟨w1.heap.size, 0, none⟩))
  have hw := hg.size
  refine ⟨_, ⟨w1.heap.size, x1.gl, x1.g⟩, w2, ⟨hed2.apart hs (fun e => ?_), hlf2.apart hs (fun e => hne ?_), fun e => ?_, okOf hlf2.at_ (by rw [hB, hO]; simp) (by rw [hB]; simp) (by rw [hO]; simp)⟩, hg.trans hg2, hgl, .inr ⟨rfl, hg.size⟩⟩
  · have e2 : w1.heap.size = own gp := e.trans hgp
    omega
  · have e2 : x1.gl = own gp := e.trans hgp
    rw [← e2, hgl]
  · have := hlf.at_.lt.1
    have e2 : w1.heap.size = x1.gl := e
    omega

set_option maxHeartbeats 1000000 in
theorem pagePack (own : Nat → Nat) (w : World) (x : Pl) (p : Pg) (gp o : Nat) (n : Int) (hr : RowAt own w gp o x p.name) (hgh : own gp < w.heap.size) (h : PageAt own w x p) :
    Calls Tryz.prog 60 #[.pointer (some ⟨gp, o, none⟩), .int .i64 n] w fun e w' => e = .returned (.int .i64 (packP p n).1) ∧ PageTo own w gp o x (packP p n).2 w' := by
  have c2 := hr.c2
  by_cases hn : n < 0 ∨ 3 < n
  · have e1 : packP p n = (1, p) := by unfold packP; rw [if_pos hn]
    rw [e1]
    have P := Lib.hid (leafPack_arg (.pointer (some ⟨x.gl, 0, none⟩)) n hn w)
    clear e1 hn
    go_enter Tryz.func60, Tryz.ntmps60
    go_wp2_with fail
    refine P.out.mono ?_
    rintro e w1 ⟨rfl, rfl⟩
    go_wp2
    go_ret
    exact ⟨rfl, PageTo.stay h (Goes.refl _ _ _)⟩
  by_cases h12 : n = 1 ∨ n = 2
  · have e1 : packP p n = (0, fallP p p.j) := by unfold packP; rw [if_neg hn, if_pos h12]
    rw [e1]
    have P := Lib.hid (leafPack_stay x.gl x.g p.j p.t p.H n h12 w h.leaf.at_)
    have q1 : (n != 0) = true := by rw [bne_iff_ne]; omega
    clear e1 hn h12
    go_enter Tryz.func60, Tryz.ntmps60
    go_wp2_with fail
    refine P.out.mono ?_
    rintro e w1 ⟨rfl, hl1, ho⟩
    obtain ⟨hlf, hg⟩ := h.leaf.goes hl1 ho
    have hr1 := hr.apart hg hr.ne2
    have d2 := hr1.c2
    have d1 := hr1.c1
    have f1 := hr1.f1
    clear c2
    go_wp2_with fail
    refine (leafText x.gl x.g _ _ _ w1 hlf.at_).mono ?_
    rintro e w2 ⟨rfl, rfl⟩
    have N := Lib.hid (newE_ok _ hlf.at_.tsize (fun k => k < w1.heap.size) w1 (fun k hk => hk))
    generalize hT : endT ⟨#[]⟩ (p.H.take p.j) = T at *
    have HT := Lib.hid hT
    clear hT
    go_wp2_with fail
    refine N.out.mono ?_
    rintro e w3 ⟨rfl, hed, hb, hsz⟩
    have hr3 := hr1.after hb
    have d1 := hr3.c1
    have f1 := hr3.f1
    clear d2 hr1
    go_wp2
    go_ret
    have hT := HT.out
    subst hT
    exact ⟨rfl, fresh_ed (x1 := x) (p := fallP p p.j) rfl hr.lt hgh hr.ne2 (hg.wide fun k hk => .inr hk) hlf rfl rfl hed hb⟩
  have h03 : n = 0 ∨ n = 3 := by omega
  have P := Lib.hid (leafPack_new x.gl x.g p.j p.t p.H n h03 w h.leaf.at_)
  by_cases h0 : n = 0
  · have e1 : packP p n = (0, { p with H := [(98 :: p.t.data.toList, p.t)], j := 1 }) := by unfold packP; rw [if_neg hn, if_neg h12, if_pos h0]
    rw [e1]
    subst h0
    clear e1 hn h12 h03
    go_enter Tryz.func60, Tryz.ntmps60
    go_wp2_with fail
    refine P.out.mono ?_
    rintro e w1 ⟨rfl, g', hl1, hg', ho⟩
    obtain ⟨hlf, hg⟩ := h.leaf.goesU hl1 hg' ho
    go_wp2
    go_ret
    exact ⟨rfl, _, ⟨x.ge, x.gl, g'⟩, w1, ⟨h.ed.apart hg h.ne, hlf, h.ne, okOf hlf.at_ h.ok.few h.ok.back h.ok.onward⟩, hg.wide fun k hk => .inr hk, rfl, .inl ⟨rfl, rfl⟩⟩
  · have e1 : packP p n = (0, { p with B := [], O := [], H := [(98 :: p.t.data.toList, p.t)], j := 1 }) := by unfold packP; rw [if_neg hn, if_neg h12, if_neg h0]
    rw [e1]
    have q1 : (n != 0) = true := by rw [bne_iff_ne]; omega
    clear e1 hn h12 h0 h03
    go_enter Tryz.func60, Tryz.ntmps60
    go_wp2_with fail
    refine P.out.mono ?_
    rintro e w1 ⟨rfl, g', hl1, hg', ho⟩
    obtain ⟨hlf, hg⟩ := h.leaf.goesU hl1 hg' ho
    have hr1 := hr.apart hg hr.ne2
    have d2 := hr1.c2
    clear c2
    go_wp2_with fail
    refine (leafText x.gl g' _ _ _ w1 hlf.at_).mono ?_
    rintro e w2 ⟨rfl, rfl⟩
    have N := Lib.hid (newE_ok p.t hlf.at_.tsize (fun k => k < w1.heap.size) w1 (fun k hk => hk))
    go_wp2_with fail
    refine N.out.mono ?_
    rintro e w3 ⟨rfl, hed, hb, hsz⟩
    have hr3 := hr1.after hb
    have d1 := hr3.c1
    have f1 := hr3.f1
    clear d2 hr1
    go_wp2
    go_ret
    exact ⟨rfl, fresh_ed (x1 := ⟨x.ge, x.gl, g'⟩) (p := { p with B := [], O := [], H := [(98 :: p.t.data.toList, p.t)], j := 1 }) rfl hr.lt hgh hr.ne2 (hg.wide fun k hk => .inr hk) hlf rfl rfl hed hb⟩
end Go.Proofs.YtaogegpfapfchaaGreatDoor

/- The walk of house.name. -/
namespace Go.Proofs.YtaogegpfapfchaaGreatDoor
open Go.RowKit
set_option linter.unusedVariables false

def inName (c : UInt8) : Bool := decide (97 ≤ c.toNat) && decide (c.toNat ≤ 122)
theorem nameE_chars {s : ByteArray} (h1 : 1 ≤ s.size) (h8 : s.size ≤ 8) : nameE s = if s.data.toList.all inName = true then 0 else 3 := by
  unfold nameE; rw [if_neg (by omega)]; rfl

set_option maxHeartbeats 1000000 in
theorem name_any (s : ByteArray) (hs : s.size ≤ 140737488351232) (w : World) : Calls Tryz.prog 51 #[.string s] w fun e w' => e = .returned (.int .i64 (nameE s)) ∧ Below w.heap.size w w' := by
  by_cases h1 : s.size < 1
  · have e1 : nameE s = 3 := by unfold nameE; rw [if_pos (.inl h1)]
    rw [e1]
    have q1 : decide (s.size < 1) = true := decide_eq_true h1
    have q1' : decide ((s.size : Int) < 1) = true := decide_eq_true (by omega)
    clear e1
    go_enter Tryz.func51, Tryz.ntmps51
    go_wp2
    go_ret
    exact ⟨rfl, Below.refl _ _⟩
  have q1 : decide (s.size < 1) = false := decide_eq_false h1
  have q1' : decide ((s.size : Int) < 1) = false := decide_eq_false (by omega)
  by_cases h8 : 8 < s.size
  · have e1 : nameE s = 3 := by unfold nameE; rw [if_pos (.inr h8)]
    rw [e1]
    have q2 : decide (8 < s.size) = true := decide_eq_true h8
    have q2' : decide ((8 : Int) < (s.size : Int)) = true := decide_eq_true (by omega)
    clear e1
    go_enter Tryz.func51, Tryz.ntmps51
    go_wp2
    go_ret
    exact ⟨rfl, Below.refl _ _⟩
  have q2 : decide (8 < s.size) = false := decide_eq_false h8
  have q2' : decide ((8 : Int) < (s.size : Int)) = false := decide_eq_false (by omega)
  have HE := Lib.hid (nameE_chars (s := s) (by omega) (by omega))
  have hcv := fun w s => run_bytes_of_string (P := Tryz.prog) w 9 54 5 s Tryz.underlying9 Tryz.underlying54 Tryz.underlying5
  generalize nameE s = E at *
  go_enter Tryz.func51, Tryz.ntmps51
  go_wp2
  generalize hW' : World.drew _ = W1
  obtain ⟨hb0, hz0, hat⟩ := bytes_at s _ (grownCap_ge _ _ _ _) _ _ _ hW'
  clear hW' hcv
  generalize grownCap _ _ _ _ = cap
  go_loopw [4, 16] (fun _ iv wr => ∃ i : Nat, i ≤ s.size ∧ iv = .int .i64 i ∧ Hid ((s.data.toList.take i).all inName = true) ∧ BytesAt wr w.heap.size s.data.toList ∧ Below w.heap.size w wr) (fun _ iv _ => s.size - (intOf iv).toNat)
  case atStart => exact ⟨0, Nat.zero_le _, rfl, Lib.hid (by simp), hat, hb0⟩
  case round =>
    clear hat hb0
    obtain ⟨i, hi, rfl, HA, hat, hbr⟩ := hrel
    by_cases hlt : i < s.size
    · have hcb := (hat.2 i hlt).1
      have htk := take_succ_getD s.data.toList i 0 hlt
      have Htk := Lib.hid htk
      have hmem : s.data.toList.getD i 0 ∈ s.data.toList := by rw [getD_some _ _ _ hlt]; exact List.getElem_mem _
      have Hmem := Lib.hid hmem
      clear htk hmem
      generalize s.data.toList.getD i 0 = b at *
      by_cases ha : b.toNat < 97
      · have r1 : decide ((b.toNat : Int) < 97) = true := decide_eq_true (by omega)
        have hbad : s.data.toList.all inName = false := by
          rw [List.all_eq_false]
          exact ⟨b, Hmem.out, by unfold inName; simp [show ¬ 97 ≤ b.toNat by omega]⟩
        have Hbad := Lib.hid hbad
        clear hbad
        go_wp2
        go_ret
        exact ⟨by rw [HE.out, if_neg (by rw [Hbad.out]; decide)]; rfl, hbr⟩
      · have r1 : decide ((b.toNat : Int) < 97) = false := decide_eq_false (by omega)
        by_cases hz : 122 < b.toNat
        · have r2 : decide ((122 : Int) < (b.toNat : Int)) = true := decide_eq_true (by omega)
          have r2' : decide (122 < b.toNat) = true := decide_eq_true hz
          have hbad : s.data.toList.all inName = false := by
            rw [List.all_eq_false]
            exact ⟨b, Hmem.out, by unfold inName; simp [show ¬ b.toNat ≤ 122 by omega]⟩
          have Hbad := Lib.hid hbad
          clear hbad
          go_wp2
          go_ret
          exact ⟨by rw [HE.out, if_neg (by rw [Hbad.out]; decide)]; rfl, hbr⟩
        · have r2 : decide ((122 : Int) < (b.toNat : Int)) = false := decide_eq_false (by omega)
          have r2' : decide (122 < b.toNat) = false := decide_eq_false hz
          have hgd : inName b = true := by unfold inName; simp; omega
          have Hgd := Lib.hid hgd
          clear hgd
          go_wp2
          go_roundw
          case rel => exact ⟨i + 1, by omega, by go_num, Lib.hid (by rw [Htk.out, List.all_append, HA.out, List.all_cons, Hgd.out]; rfl), hat, ⟨hbr.os, hbr.tape, hbr.output, hbr.size, hbr.block⟩⟩
          case measure => simp [intOf]; omega
    · obtain rfl : i = s.size := by omega
      have hall : s.data.toList.all inName = true := by
        have := HA.out
        rwa [show s.data.toList.take s.size = s.data.toList from List.take_of_length_le (Nat.le_refl _)] at this
      have Hall := Lib.hid hall
      clear hall
      go_wp2
      go_ret
      exact ⟨by rw [HE.out, if_pos Hall.out]; rfl, hbr⟩
end Go.Proofs.YtaogegpfapfchaaGreatDoor

/- The walk of the desk's number and listed. -/
namespace Go.Proofs.YtaogegpfapfchaaGreatDoor
open Go.RowKit
set_option linter.unusedVariables false

def inDg (c : UInt8) : Bool := decide (48 ≤ c.toNat) && decide (c.toNat ≤ 57)
def nrD (l : List UInt8) : Nat := l.foldl (fun n c => 10 * n + (c.toNat - 48)) 0
/-- The number of one to three digits. -/
def numD (s : ByteArray) : Option Nat := if s.size < 1 ∨ 3 < s.size then none else if s.data.toList.all inDg = true then some (nrD s.data.toList) else none
theorem nrD_snoc (l : List UInt8) (c : UInt8) : nrD (l ++ [c]) = 10 * nrD l + (c.toNat - 48) := by unfold nrD; rw [List.foldl_append]; rfl
def numE (o : Option Nat) : Ending := match o with
  | none => .panicked (thrown 12)
  | some n => .returned (.int .i64 (n : Int))
theorem numD_chars {s : ByteArray} (h1 : 1 ≤ s.size) (h8 : s.size ≤ 3) : numE (numD s) = if s.data.toList.all inDg = true then .returned (.int .i64 (nrD s.data.toList : Int)) else .panicked (thrown 12) := by
  unfold numD; rw [if_neg (by omega)]
  split <;> rfl
theorem nrD_le : ∀ (l : List UInt8), l.length ≤ 3 → l.all inDg = true → nrD l ≤ 999
  | [], _, _ => by decide
  | [a], _, h => by simp [inDg] at h; simp [nrD]; omega
  | [a, b], _, h => by simp [inDg] at h; simp [nrD]; omega
  | [a, b, c], _, h => by simp [inDg] at h; simp [nrD]; omega
  | _ :: _ :: _ :: _ :: _, h, _ => by simp at h

set_option maxHeartbeats 1000000 in
theorem dnum_any (s : ByteArray) (hs : s.size ≤ 140737488351232) (w : World) : Calls Tryz.prog 31 #[.string s] w fun e w' => e = numE (numD s) ∧ Below w.heap.size w w' := by
  have M := Lib.hid (must_no 12 (by decide))
  by_cases h1 : s.size < 1
  · have e1 : numD s = none := by unfold numD; rw [if_pos (.inl h1)]
    rw [e1]
    have q1 : decide (s.size < 1) = true := decide_eq_true h1
    have q1' : decide ((s.size : Int) < 1) = true := decide_eq_true (by omega)
    clear e1
    go_enter Tryz.func31, Tryz.ntmps31
    go_wp2_with fail
    refine (M.out _).mono ?_
    rintro e w1 ⟨rfl, rfl⟩
    exact ⟨rfl, rfl, Below.refl _ _⟩
  have q1 : decide (s.size < 1) = false := decide_eq_false h1
  have q1' : decide ((s.size : Int) < 1) = false := decide_eq_false (by omega)
  by_cases h8 : 3 < s.size
  · have e1 : numD s = none := by unfold numD; rw [if_pos (.inr h8)]
    rw [e1]
    have q2 : decide (3 < s.size) = true := decide_eq_true h8
    have q2' : decide ((3 : Int) < (s.size : Int)) = true := decide_eq_true (by omega)
    clear e1
    go_enter Tryz.func31, Tryz.ntmps31
    go_wp2_with fail
    refine (M.out _).mono ?_
    rintro e w1 ⟨rfl, rfl⟩
    exact ⟨rfl, rfl, Below.refl _ _⟩
  have q2 : decide (3 < s.size) = false := decide_eq_false h8
  have q2' : decide ((3 : Int) < (s.size : Int)) = false := decide_eq_false (by omega)
  have HE := Lib.hid (numD_chars (s := s) (by omega) (by omega))
  have hcv := fun w s => run_bytes_of_string (P := Tryz.prog) w 9 54 5 s Tryz.underlying9 Tryz.underlying54 Tryz.underlying5
  have Hle := Lib.hid (fun i (h : (s.data.toList.take i).all inDg = true) => nrD_le (s.data.toList.take i) (by rw [List.length_take]; have : s.data.toList.length = s.size := rfl; omega) h)
  generalize numE (numD s) = E at *
  go_enter Tryz.func31, Tryz.ntmps31
  go_wp2
  generalize hW' : World.drew _ = W1
  obtain ⟨hb0, hz0, hat⟩ := bytes_at s _ (grownCap_ge _ _ _ _) _ _ _ hW'
  clear hW' hcv
  generalize grownCap _ _ _ _ = cap
  go_loopw [3, 5, 18] (fun n _ iv wr => ∃ i : Nat, i ≤ s.size ∧ iv = .int .i64 i ∧ n = .int .i64 (nrD (s.data.toList.take i) : Int) ∧ Hid ((s.data.toList.take i).all inDg = true) ∧ BytesAt wr w.heap.size s.data.toList ∧ Below w.heap.size w wr) (fun _ _ iv _ => s.size - (intOf iv).toNat)
  case atStart => exact ⟨0, Nat.zero_le _, rfl, rfl, Lib.hid (by simp), hat, hb0⟩
  case round =>
    clear hat hb0
    obtain ⟨i, hi, rfl, rfl, HA, hat, hbr⟩ := hrel
    by_cases hlt : i < s.size
    · have hcb := (hat.2 i hlt).1
      have htk := take_succ_getD s.data.toList i 0 hlt
      have Htk := Lib.hid htk
      have hmem : s.data.toList.getD i 0 ∈ s.data.toList := by rw [getD_some _ _ _ hlt]; exact List.getElem_mem _
      have Hmem := Lib.hid hmem
      have hv := Hle.out i HA.out
      clear htk hmem
      generalize s.data.toList.getD i 0 = b at *
      by_cases ha : b.toNat < 48
      · have r1 : decide ((b.toNat : Int) < 48) = true := decide_eq_true (by omega)
        have hbad : s.data.toList.all inDg = false := by
          rw [List.all_eq_false]
          exact ⟨b, Hmem.out, by unfold inDg; simp [show ¬ 48 ≤ b.toNat by omega]⟩
        have Hbad := Lib.hid hbad
        clear hbad
        go_wp2_with fail
        refine (M.out _).mono ?_
        rintro e w1 ⟨rfl, rfl⟩
        exact ⟨rfl, by rw [HE.out, if_neg (by rw [Hbad.out]; decide)], hbr⟩
      · have r1 : decide ((b.toNat : Int) < 48) = false := decide_eq_false (by omega)
        by_cases hz : 57 < b.toNat
        · have r2 : decide ((57 : Int) < (b.toNat : Int)) = true := decide_eq_true (by omega)
          have r2' : decide (57 < b.toNat) = true := decide_eq_true hz
          have hbad : s.data.toList.all inDg = false := by
            rw [List.all_eq_false]
            exact ⟨b, Hmem.out, by unfold inDg; simp [show ¬ b.toNat ≤ 57 by omega]⟩
          have Hbad := Lib.hid hbad
          clear hbad
          go_wp2_with fail
          refine (M.out _).mono ?_
          rintro e w1 ⟨rfl, rfl⟩
          exact ⟨rfl, by rw [HE.out, if_neg (by rw [Hbad.out]; decide)], hbr⟩
        · have r2 : decide ((57 : Int) < (b.toNat : Int)) = false := decide_eq_false (by omega)
          have r2' : decide (57 < b.toNat) = false := decide_eq_false hz
          have hgd : inDg b = true := by unfold inDg; simp; omega
          have Hgd := Lib.hid hgd
          have Hvs := Lib.hid (nrD_snoc (s.data.toList.take i) b)
          clear hgd
          generalize nrD (s.data.toList.take i) = V at *
          go_wp2
          go_roundw
          case rel => exact ⟨i + 1, by omega, by go_num, by rw [Htk.out, Hvs.out]; go_num, Lib.hid (by rw [Htk.out, List.all_append, HA.out, List.all_cons, Hgd.out]; rfl), hat, ⟨hbr.os, hbr.tape, hbr.output, hbr.size, hbr.block⟩⟩
          case measure => simp [intOf]; omega
    · obtain rfl : i = s.size := by omega
      have htl : s.data.toList.take s.size = s.data.toList := List.take_of_length_le (Nat.le_refl _)
      have hall : s.data.toList.all inDg = true := by
        have := HA.out
        rwa [htl] at this
      have Hall := Lib.hid hall
      have Htl := Lib.hid htl
      clear hall htl
      go_wp2
      go_ret
      exact ⟨by rw [HE.out, if_pos Hall.out, Htl.out]; rfl, hbr⟩
end Go.Proofs.YtaogegpfapfchaaGreatDoor

