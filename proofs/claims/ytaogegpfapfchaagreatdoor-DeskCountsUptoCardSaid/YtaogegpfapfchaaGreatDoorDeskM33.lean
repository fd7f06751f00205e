import Derived.Test.YtaogegpfapfchaaGreatDoorDeskM32
import Derived.Test.YtaogegpfapfchaaGreatDoorDeskM16
/- Several texts in one: XHouseDo10 XHouseOne XHouseDo. -/
/- The walk of a house's Do: a script made for a page. -/
namespace Go.Proofs.YtaogegpfapfchaaGreatDoor
open Go.RowKit
set_option linter.unusedVariables false

theorem made_eds (a b : ByteArray) (h : ce a b = 0) (h20 : cv a b ≤ 20) {w : World} {A : Option Addr} {c : Nat} (hr : Reads w w.heap.size A (makeE a b).length 3 ((makeE a b).flatMap cEdit)) : EdsAt w A (makeE a b).length c (makeE a b) := by
  obtain ⟨h1, h2, h3⟩ := makes_law a b h h20
  obtain ⟨g0, g1, g2, g3, g4⟩ := checkE_ok h1
  refine ⟨rfl, by omega, fun x hx => ?_, hr⟩
  obtain ⟨y1, y2, y3, y4⟩ := ok_all g1 g3 x hx
  omega
theorem make_any (a b : ByteArray) (w : World) : Calls Tryz.prog 56 #[.string a, .string b] w (ToldMake a b w) := by
  by_cases h0 : ce a b = 0
  · by_cases h20 : cv a b ≤ 20
    · obtain ⟨ha, hb⟩ := ce_zero h0
      exact make_ok a b ha hb h20 w
    · exact make_no a b w fun _ => by omega
  · exact make_no a b w fun h => absurd h h0
theorem make_refused (a b : ByteArray) (E : Int) (hE : (ce a b ≠ 0 ∧ E = 2) ∨ (ce a b = 0 ∧ 20 < cv a b ∧ E = 11)) (w : World) :
    Calls Tryz.prog 56 #[.string a, .string b] w fun e w' => e = .returned (.tuple #[.slice none 0 0, .int .i64 E]) ∧ Below w.heap.size w w' :=
  (make_any a b w).mono fun e w' ⟨hb, h⟩ => by
    rcases h with ⟨h0, h1, _⟩ | ⟨h0, h1, h⟩ | ⟨h0, h⟩
    · omega
    · rcases hE with ⟨h2, _⟩ | ⟨_, _, rfl⟩
      · exact absurd h0 h2
      · exact ⟨h, hb⟩
    · rcases hE with ⟨_, rfl⟩ | ⟨h2, _⟩
      · exact ⟨h, hb⟩
      · omega
theorem make_made (a b : ByteArray) (h0 : ce a b = 0) (h20 : cv a b ≤ 20) (w : World) :
    Calls Tryz.prog 56 #[.string a, .string b] w fun e w' => ∃ A c, e = .returned (.tuple #[.slice A (makeE a b).length c, .int .i64 0]) ∧ EdsAt w' A (makeE a b).length c (makeE a b) ∧ Below w.heap.size w w' :=
  (make_any a b w).mono fun e w' ⟨hb, h⟩ => by
    rcases h with ⟨_, _, A, c, h, hr⟩ | ⟨_, h1, _⟩ | ⟨h1, _⟩
    · exact ⟨A, c, h, made_eds a b h0 h20 hr, hb⟩
    · omega
    · omega
theorem makeP_name (p : Pg) (t : ByteArray) : (makeP p t).2.name = p.name := by
  unfold makeP
  split
  · rfl
  · split
    · rfl
    · exact editP_name _ _

set_option maxHeartbeats 1000000 in
theorem do_make_no (own : Nat → Nat) (w : World) (gh : Nat) (Q : List (Pl × Pg)) (h : HouseAt own w gh Q) (hQ : Q.length ≤ 6) (d : Dd) (Ad : Option Addr) (cd : Nat) (hk : d.kind = 10) (ht : Tab w) (E : Int) (hE0 : E ≠ 0) (k : Nat) (hkl : k < Q.length) (hE : (ce Q[k].2.t d.text ≠ 0 ∧ E = 2) ∨ (ce Q[k].2.t d.text = 0 ∧ 20 < cv Q[k].2.t d.text ∧ E = 11)) (hp : placeN d.name (Q.map (·.2)) 0 = (k : Int)) (hn : nameE d.name = 0) (hs : d.name.size ≤ 140737488351232) :
    Calls Tryz.prog 32 #[.pointer (some ⟨gh, 0, none⟩), .agg (cDeed d Ad cd)] w fun e w' => e = .returned (.tuple #[.string ⟨#[]⟩, .int .i64 E]) ∧ HouseTo own w gh Q ((Q.map (·.2)).set k Q[k].2) w' := by
  have hba : Below w.heap.size w (w.alloc (Obj.cells (cDeed d Ad cd) 70)) := (Below.refl _ _).alloc (Nat.le_refl _) _
  have hbd := Blk.new w 70 (cDeed d Ad cd)
  have N := Lib.hid (name_any d.name hs)
  rw [hn] at N
  have b0 := hbd.cell 0
  have b2 := hbd.cell 2
  have HH := Lib.hid h
  unfold cDeed at b0 b2
  have qa : decide (d.kind < 1) = false := decide_eq_false (by omega)
  have qb : decide (10 < d.kind) = false := decide_eq_false (by omega)
  have q1 : (d.kind == 1) = false := by rw [hk]; rfl
  have q2 : (d.kind == 2) = false := by rw [hk]; rfl
  have q10 : (d.kind == 10) = true := by rw [hk]; rfl
  have q3 : (d.kind == 3) = false := by rw [hk]; rfl
  have q4 : (d.kind == 4) = false := by rw [hk]; rfl
  have q5 : (d.kind == 5) = false := by rw [hk]; rfl
  have q6 : (d.kind == 6) = false := by rw [hk]; rfl
  have q7 : (d.kind == 7) = false := by rw [hk]; rfl
  have q8 : (d.kind == 8) = false := by rw [hk]; rfl
  have Hp := Lib.hid hp
  have hsame : (Q.map (·.2)).set k Q[k].2 = Q.map (·.2) := by
    have e : Q[k].2 = (Q.map (·.2))[k]'(by simpa using hkl) := by simp
    rw [e, List.set_getElem_self]
  clear h hk hn hp
  go_enter Tryz.func32, Tryz.ntmps32
  unfold cDeed at hba hbd ⊢
  go_wp2_with fail
  refine (N.out _).mono ?_
  rintro e w1 ⟨rfl, hb1⟩
  have hbd1 := hbd.after hb1
  have hb1 := chain hb1 hba
  have hh1 := HH.out.apart (Goes.of_below (own := own) (S := fun _ => False) hb1) (fun _ _ h => h)
  obtain ⟨⟨A, n, c, hB, hrow, hQl, _⟩, how, hpg, hids⟩ := hh1
  have d0 := hB.cell 0
  have e0 := hbd1.cell 0
  have I := Lib.hid (indexPage w.heap.size d Ad cd A n c w1.heap.size Q hQl (by omega) w1 hrow.toReads (Nat.le_refl _) hbd1)
  rw [Hp.out] at I
  clear hbd N b0 b2 hba
  go_wp2_with fail
  refine I.out.mono ?_
  rintro e w2 ⟨rfl, hb2⟩
  have hbd2 := hbd1.after hb2
  obtain ⟨g, o, rfl, _⟩ := hrow.shape (by omega)
  obtain ⟨hog, hgl, hra⟩ := row_page (k := k) hpg hids hrow hQl (by omega)
  have hra2 := hra.after hb2
  have hh2 := HH.out.apart (Goes.of_below (own := own) (S := fun _ => False) (chain hb2 hb1)) (fun _ _ h => h)
  have hpg2 : ∀ y ∈ Q, PageAt own w2 y.1 y.2 := hh2.page
  have hlt2 := hh2.lt
  have hB2 := hB.after hb2
  have g0 := hB2.cell 0
  have c0 := hbd2.cell 0
  have c1 := hbd2.cell 1
  have hkn : k < n := by omega
  have hrow2 : OwnK 66 3 w2 (fun k => k < w2.heap.size ∧ own k ≠ gh) (some ⟨g, o, none⟩) n c (Q.flatMap cPage) := by
    refine (hrow.after hb2).weak fun b hq hh => ?_
    have := hrow.lt b hq
    exact this.1 ⟨this.2, hh.2⟩
  have hb2 := chain hb2 hb1
  have hP := hpg2 _ (List.getElem_mem (l := Q) (n := k) hkl)
  have p1 := hra2.c1
  have c3 : w2.cell? ⟨w.heap.size, 3, none⟩ = some (.string d.text) := hbd2.cell 3
  have hP := hpg2 _ (List.getElem_mem (l := Q) (n := k) hkl)
  have T := Lib.hid (fun W (hb : Below w2.heap.size w2 W) => text_any Q[k].1.ge Q[k].2.t Q[k].2.B Q[k].2.O _ W (hP.apart (Goes.of_below (own := own) (S := fun _ => False) hb) (fun h => h) (fun h => h)).ed)
  have M := Lib.hid (fun W (hb : Below w2.heap.size w2 W) => (make_refused Q[k].2.t d.text E hE W).mono fun e w' h =>
    (show e = .returned (.tuple #[.slice none 0 0, .int .i64 E]) ∧ Below w2.heap.size w2 w' ∧ w'.cell? ⟨g, o + k * 3 + 1, none⟩ = some (.pointer (some ⟨Q[k].1.ge, 0, none⟩)) ∧ w'.cell? ⟨w.heap.size, 3, none⟩ = some (.string d.text) from by
      have hbb : Below w2.heap.size w2 w' := chain h.2 hb
      exact ⟨h.1, hbb, by rw [← p1]; simp only [World.cell?, hbb.block g hra2.lt], by rw [← c3]; simp only [World.cell?, hbb.block w.heap.size hbd2.lt]⟩))
  have qE : (E != 0) = true := by simpa using hE0
  have HS := Lib.hid (fun w' hb => HouseTo.stay (w' := w') HH.out hb)
  clear I hbd1 d0 e0 hbd2 hB hrow hpg hra hh2 hE HH
  go_wp2
  have hbw := Below.refl w2.heap.size w2
  go_region_held3 (fun w' => w'.cell? ⟨g, o + k * 3 + 1, none⟩ = some (.pointer (some ⟨Q[k].1.ge, 0, none⟩)) ∧ w'.cell? ⟨w.heap.size, 3, none⟩ = some (.string d.text)) (first | exact ⟨p1, c3⟩ | exact ⟨by assumption, by assumption⟩)
    (first
      | (go_at_call 57; refine (T.out _ (first_drew hbw)).mono ?_; rintro e w3 ⟨rfl, rfl⟩)
      | (go_at_call 56; refine (M.out _ (first_drew hbw)).mono ?_; rintro e w4 ⟨rfl, hb4, k1, k2⟩))
  go_wp2
  go_ret2
  rw [hsame]
  exact ⟨rfl, HS.out _ (chain hb4 hb2)⟩

set_option maxHeartbeats 1000000 in
theorem do_make_ok (own : Nat → Nat) (w : World) (gh : Nat) (Q : List (Pl × Pg)) (h : HouseAt own w gh Q) (hQ : Q.length ≤ 6) (d : Dd) (Ad : Option Addr) (cd : Nat) (hk : d.kind = 10) (ht : Tab w) (k : Nat) (hkl : k < Q.length) (h0 : ce Q[k].2.t d.text = 0) (h20 : cv Q[k].2.t d.text ≤ 20) (hp : placeN d.name (Q.map (·.2)) 0 = (k : Int)) (hn : nameE d.name = 0) (hs : d.name.size ≤ 140737488351232) :
    Calls Tryz.prog 32 #[.pointer (some ⟨gh, 0, none⟩), .agg (cDeed d Ad cd)] w fun e w' => e = .returned (.tuple #[.string ⟨#[]⟩, .int .i64 (editP Q[k].2 (makeE Q[k].2.t d.text)).1]) ∧ HouseTo own w gh Q ((Q.map (·.2)).set k (editP Q[k].2 (makeE Q[k].2.t d.text)).2) w' := by
  have hba : Below w.heap.size w (w.alloc (Obj.cells (cDeed d Ad cd) 70)) := (Below.refl _ _).alloc (Nat.le_refl _) _
  have hbd := Blk.new w 70 (cDeed d Ad cd)
  have N := Lib.hid (name_any d.name hs)
  rw [hn] at N
  have b0 := hbd.cell 0
  have b2 := hbd.cell 2
  have HH := Lib.hid h
  unfold cDeed at b0 b2
  have qa : decide (d.kind < 1) = false := decide_eq_false (by omega)
  have qb : decide (10 < d.kind) = false := decide_eq_false (by omega)
  have q1 : (d.kind == 1) = false := by rw [hk]; rfl
  have q2 : (d.kind == 2) = false := by rw [hk]; rfl
  have q10 : (d.kind == 10) = true := by rw [hk]; rfl
  have q3 : (d.kind == 3) = false := by rw [hk]; rfl
  have q4 : (d.kind == 4) = false := by rw [hk]; rfl
  have q5 : (d.kind == 5) = false := by rw [hk]; rfl
  have q6 : (d.kind == 6) = false := by rw [hk]; rfl
  have q7 : (d.kind == 7) = false := by rw [hk]; rfl
  have q8 : (d.kind == 8) = false := by rw [hk]; rfl
  have Hp := Lib.hid hp
  clear h hk hn hp
  go_enter Tryz.func32, Tryz.ntmps32
  unfold cDeed at hba hbd ⊢
  go_wp2_with fail
  refine (N.out _).mono ?_
  rintro e w1 ⟨rfl, hb1⟩
  have hbd1 := hbd.after hb1
  have hb1 := chain hb1 hba
  have hh1 := HH.out.apart (Goes.of_below (own := own) (S := fun _ => False) hb1) (fun _ _ h => h)
  obtain ⟨⟨A, n, c, hB, hrow, hQl, _⟩, how, hpg, hids⟩ := hh1
  have d0 := hB.cell 0
  have e0 := hbd1.cell 0
  have I := Lib.hid (indexPage w.heap.size d Ad cd A n c w1.heap.size Q hQl (by omega) w1 hrow.toReads (Nat.le_refl _) hbd1)
  rw [Hp.out] at I
  clear hbd N b0 b2 hba
  go_wp2_with fail
  refine I.out.mono ?_
  rintro e w2 ⟨rfl, hb2⟩
  have hbd2 := hbd1.after hb2
  obtain ⟨g, o, rfl, _⟩ := hrow.shape (by omega)
  obtain ⟨hog, hgl, hra⟩ := row_page (k := k) hpg hids hrow hQl (by omega)
  have hra2 := hra.after hb2
  have hh2 := HH.out.apart (Goes.of_below (own := own) (S := fun _ => False) (chain hb2 hb1)) (fun _ _ h => h)
  have hpg2 : ∀ y ∈ Q, PageAt own w2 y.1 y.2 := hh2.page
  have hlt2 := hh2.lt
  have hB2 := hB.after hb2
  have g0 := hB2.cell 0
  have c0 := hbd2.cell 0
  have c1 := hbd2.cell 1
  have hkn : k < n := by omega
  have hrow2 : OwnK 66 3 w2 (fun k => k < w2.heap.size ∧ own k ≠ gh) (some ⟨g, o, none⟩) n c (Q.flatMap cPage) := by
    refine (hrow.after hb2).weak fun b hq hh => ?_
    have := hrow.lt b hq
    exact this.1 ⟨this.2, hh.2⟩
  have hb2 := chain hb2 hb1
  have hP := hpg2 _ (List.getElem_mem (l := Q) (n := k) hkl)
  have p1 := hra2.c1
  have c3 : w2.cell? ⟨w.heap.size, 3, none⟩ = some (.string d.text) := hbd2.cell 3
  have hP := hpg2 _ (List.getElem_mem (l := Q) (n := k) hkl)
  have T := Lib.hid (fun W (hb : Below w2.heap.size w2 W) => text_any Q[k].1.ge Q[k].2.t Q[k].2.B Q[k].2.O _ W (hP.apart (Goes.of_below (own := own) (S := fun _ => False) hb) (fun h => h) (fun h => h)).ed)
  have M := Lib.hid (fun W (hb : Below w2.heap.size w2 W) => (make_made Q[k].2.t d.text h0 h20 W).mono fun e w' h =>
    (show (∃ A4 c4, e = .returned (.tuple #[.slice A4 (makeE Q[k].2.t d.text).length c4, .int .i64 0]) ∧ EdsAt w' A4 (makeE Q[k].2.t d.text).length c4 (makeE Q[k].2.t d.text)) ∧ Below w2.heap.size w2 w' ∧ w'.cell? ⟨g, o + k * 3 + 1, none⟩ = some (.pointer (some ⟨Q[k].1.ge, 0, none⟩)) ∧ w'.cell? ⟨w.heap.size, 3, none⟩ = some (.string d.text) from by
      obtain ⟨A4, c4, h⟩ := h
      have hbb : Below w2.heap.size w2 w' := chain h.2.2 hb
      exact ⟨⟨A4, c4, h.1, h.2.1⟩, hbb, by rw [← p1]; simp only [World.cell?, hbb.block g hra2.lt], by rw [← c3]; simp only [World.cell?, hbb.block w.heap.size hbd2.lt]⟩))
  have ht2 := ht.after hb2
  have Hra := Lib.hid hra2
  have Hpg := Lib.hid hpg2
  have Hlt2 := Lib.hid hlt2
  clear I hbd1 d0 e0 hbd2 hB hrow hpg hra hh2 h0 h20 HH ht hra2 hpg2 hlt2
  go_wp2
  have hbw := Below.refl w2.heap.size w2
  go_region_held3 (fun w' => w'.cell? ⟨g, o + k * 3 + 1, none⟩ = some (.pointer (some ⟨Q[k].1.ge, 0, none⟩)) ∧ w'.cell? ⟨w.heap.size, 3, none⟩ = some (.string d.text)) (first | exact ⟨p1, c3⟩ | exact ⟨by assumption, by assumption⟩)
    (first
      | (go_at_call 57; refine (T.out _ (first_drew hbw)).mono ?_; rintro e w3 ⟨rfl, rfl⟩)
      | (go_at_call 56; refine (M.out _ (first_drew hbw)).mono ?_; rintro e w4 ⟨⟨A4, c4, rfl, he4⟩, hb4, k1, k2⟩))
  have E := Lib.hid (pageEdit own w4 Q[k].1 Q[k].2 g (o + k * 3) (Hra.out.after hb4) (hP.apart (Goes.of_below (own := own) (S := fun _ => False) hb4) (fun h => h) (fun h => h)) (ht2.after hb4) A4 _ c4 _ he4)
  clear p1 c3 T M
  go_wp2_with fail
  refine E.out.mono ?_
  rintro e w5 ⟨own', rfl, hp5, hg5⟩
  have hg5 := (Goes.of_below (own := own) (S := ofPl Q[k].1) hb4).trans hg5
  have HT := Lib.hid (house_put hB2 hrow2 hQl how Hpg.out hids Hlt2.out hkl (editP_name _ _) (PageTo.stay hp5 hg5))
  clear E
  go_wp2
  go_ret2
  exact ⟨rfl, HT.out.before hb2⟩

theorem do_make (own : Nat → Nat) (w : World) (gh : Nat) (Q : List (Pl × Pg)) (h : HouseAt own w gh Q) (hQ : Q.length ≤ 6) (d : Dd) (Ad : Option Addr) (cd : Nat) (hk : d.kind = 10) (ht : Tab w) (k : Nat) (hkl : k < Q.length) (hp : placeN d.name (Q.map (·.2)) 0 = (k : Int)) (hn : nameE d.name = 0) (hs : d.name.size ≤ 140737488351232) :
    Calls Tryz.prog 32 #[.pointer (some ⟨gh, 0, none⟩), .agg (cDeed d Ad cd)] w fun e w' => e = .returned (.tuple #[.string ⟨#[]⟩, .int .i64 (makeP Q[k].2 d.text).1]) ∧ HouseTo own w gh Q ((Q.map (·.2)).set k (makeP Q[k].2 d.text).2) w' := by
  by_cases h0 : ce Q[k].2.t d.text = 0
  · by_cases h20 : 20 < cv Q[k].2.t d.text
    · have e : makeP Q[k].2 d.text = (11, Q[k].2) := by unfold makeP; rw [if_neg (by rw [h0]; decide), if_pos h20]
      rw [e]
      exact do_make_no own w gh Q h hQ d Ad cd hk ht 11 (by decide) k hkl (.inr ⟨h0, h20, rfl⟩) hp hn hs
    · have e : makeP Q[k].2 d.text = editP Q[k].2 (makeE Q[k].2.t d.text) := by unfold makeP; rw [if_neg (by rw [h0]; decide), if_neg h20]
      rw [e]
      exact do_make_ok own w gh Q h hQ d Ad cd hk ht k hkl h0 (by omega) hp hn hs
  · have e : makeP Q[k].2 d.text = (2, Q[k].2) := by unfold makeP; rw [if_pos h0]
    rw [e]
    exact do_make_no own w gh Q h hQ d Ad cd hk ht 2 (by decide) k hkl (.inl ⟨h0, rfl⟩) hp hn hs
end Go.Proofs.YtaogegpfapfchaaGreatDoor

/- Plain: the page of a name in a house, and what a deed makes of it. -/
namespace Go.Proofs.YtaogegpfapfchaaGreatDoor
open Go.RowKit
set_option linter.unusedVariables false

/-- The page of a name. -/
def pageOf (s : ByteArray) : List Pg → Option Pg
  | [] => none
  | p :: P => if p.name = s then some p else pageOf s P
/-- What holds of the pages of a house. -/
structure HOk (P : List Pg) : Prop where
  few : P.length ≤ 6
  nd : (P.map (·.name)).Nodup
  nm : ∀ p ∈ P, nameE p.name = 0
theorem HOk.nil : HOk [] := ⟨by decide, by simp, fun p hp => by cases hp⟩

theorem pageOf_none {s : ByteArray} : ∀ {P : List Pg}, pageOf s P = none → (∀ p ∈ P, p.name ≠ s) ∧ ∀ k, placeN s P k = -1
  | [], _ => ⟨fun p hp => absurd hp List.not_mem_nil, fun _ => rfl⟩
  | x :: P, h => by
    rw [pageOf] at h
    by_cases e : x.name = s
    · rw [if_pos e] at h; cases h
    · rw [if_neg e] at h
      obtain ⟨h1, h2⟩ := pageOf_none h
      refine ⟨fun p hp => ?_, fun k => by rw [placeN, if_neg e]; exact h2 _⟩
      rcases List.mem_cons.1 hp with rfl | hp
      · exact e
      · exact h1 p hp
theorem pageOf_some {s : ByteArray} {p : Pg} : ∀ {P : List Pg}, pageOf s P = some p → p.name = s ∧ ∃ i, ∃ h : i < P.length, P[i] = p ∧ ∀ k, placeN s P k = ((k + i : Nat) : Int)
  | x :: P, h => by
    rw [pageOf] at h
    by_cases e : x.name = s
    · rw [if_pos e] at h
      injection h with h
      subst h
      exact ⟨e, 0, by simp, rfl, fun k => by rw [placeN, if_pos e]; rfl⟩
    · rw [if_neg e] at h
      obtain ⟨h1, i, hi, h2, h3⟩ := pageOf_some h
      exact ⟨h1, i + 1, by simpa using hi, by simpa using h2, fun k => by rw [placeN, if_neg e, h3, show k + 1 + i = k + (i + 1) from by omega]⟩
theorem pageOf_mem {s : ByteArray} {p : Pg} {P : List Pg} (h : pageOf s P = some p) : p ∈ P := by
  obtain ⟨_, i, hi, e, _⟩ := pageOf_some h
  rw [← e]; exact List.getElem_mem _
theorem pageOf_isSome {s : ByteArray} : ∀ {P : List Pg}, (pageOf s P).isSome = true ↔ s ∈ P.map (·.name)
  | [] => by simp [pageOf]
  | x :: P => by
    rw [pageOf, List.map_cons, List.mem_cons]
    by_cases e : x.name = s
    · simp [e]
    · rw [if_neg e, pageOf_isSome]
      exact ⟨.inr, fun h => h.resolve_left fun h => e h.symm⟩
theorem pageOf_snoc (s : ByteArray) (q : Pg) : ∀ (P : List Pg), pageOf s P = none → pageOf s (P ++ [q]) = if q.name = s then some q else none
  | [], _ => rfl
  | x :: P, h => by
    rw [pageOf] at h
    by_cases e : x.name = s
    · rw [if_pos e] at h; cases h
    · rw [if_neg e] at h
      rw [List.cons_append, pageOf, if_neg e, pageOf_snoc s q P h]
theorem pageOf_snoc_ne (s : ByteArray) (q : Pg) (hq : q.name ≠ s) : ∀ (P : List Pg), pageOf s (P ++ [q]) = pageOf s P
  | [] => by
    show (if q.name = s then some q else none) = none
    rw [if_neg hq]
  | x :: P => by
    rw [List.cons_append, pageOf, pageOf, pageOf_snoc_ne s q hq P]
theorem pageOf_set_ne (s : ByteArray) (q : Pg) (hq : q.name ≠ s) : ∀ (P : List Pg) (i : Nat) (h : i < P.length), P[i].name ≠ s → pageOf s (P.set i q) = pageOf s P
  | x :: P, 0, _, h => by
    have h' : x.name ≠ s := h
    rw [List.set_cons_zero, pageOf, pageOf, if_neg hq, if_neg h']
  | x :: P, i + 1, hi, h => by
    rw [List.set_cons_succ, pageOf, pageOf, pageOf_set_ne s q hq P i (by simpa using hi) (by simpa using h)]
theorem pageOf_set (s : ByteArray) (q : Pg) (hq : q.name = s) : ∀ (P : List Pg) (i : Nat) (h : i < P.length), P[i].name = s → (P.map (·.name)).Nodup → pageOf s (P.set i q) = some q
  | x :: P, 0, _, _, _ => by rw [List.set_cons_zero, pageOf, if_pos hq]
  | x :: P, i + 1, hi, h, hn => by
    rw [List.map_cons, List.nodup_cons] at hn
    have hi' : i < P.length := by simpa using hi
    have h' : P[i].name = s := by simpa using h
    have hx : x.name ≠ s := fun e => hn.1 (by rw [e, ← h']; exact List.mem_map_of_mem (List.getElem_mem _))
    rw [List.set_cons_succ, pageOf, if_neg hx, pageOf_set s q hq P i hi' h' hn.2]
theorem pageOf_erase_ne (s : ByteArray) : ∀ (P : List Pg) (i : Nat) (h : i < P.length), P[i].name ≠ s → pageOf s (P.eraseIdx i) = pageOf s P
  | x :: P, 0, _, h => by
    have h' : x.name ≠ s := h
    rw [List.eraseIdx_cons_zero, pageOf, if_neg h']
  | x :: P, i + 1, hi, h => by
    rw [List.eraseIdx_cons_succ, pageOf, pageOf, pageOf_erase_ne s P i (by simpa using hi) (by simpa using h)]
theorem pageOf_erase (s : ByteArray) : ∀ (P : List Pg) (i : Nat) (h : i < P.length), P[i].name = s → (P.map (·.name)).Nodup → pageOf s (P.eraseIdx i) = none
  | x :: P, 0, _, h, hn => by
    have h' : x.name = s := h
    rw [List.map_cons, List.nodup_cons] at hn
    rw [List.eraseIdx_cons_zero]
    cases hp : pageOf s P with
    | none => rfl
    | some p =>
      exfalso
      apply hn.1
      rw [h', ← (pageOf_some hp).1]
      exact List.mem_map_of_mem (pageOf_mem hp)
  | x :: P, i + 1, hi, h, hn => by
    rw [List.map_cons, List.nodup_cons] at hn
    have hi' : i < P.length := by simpa using hi
    have h' : P[i].name = s := by simpa using h
    have hx : x.name ≠ s := fun e => hn.1 (by rw [e, ← h']; exact List.mem_map_of_mem (List.getElem_mem _))
    rw [List.eraseIdx_cons_succ, pageOf, if_neg hx, pageOf_erase s P i hi' h' hn.2]
theorem map_erase {α β : Type} (f : α → β) : ∀ (P : List α) (i : Nat), (P.eraseIdx i).map f = (P.map f).eraseIdx i
  | [], _ => rfl
  | x :: P, 0 => rfl
  | x :: P, i + 1 => by rw [List.eraseIdx_cons_succ, List.map_cons, List.map_cons, List.eraseIdx_cons_succ, map_erase f P i]

theorem editP_nm (p : Pg) (l : List Ed) : (editP p l).2.name = p.name := by
  unfold editP
  split
  · rfl
  · split <;> rfl
theorem backP_nm (p : Pg) : (backP p).2.name = p.name := by
  unfold backP
  split
  · rfl
  · split <;> rfl
theorem onP_nm (p : Pg) : (onP p).2.name = p.name := by
  unfold onP
  split
  · rfl
  · split <;> rfl
theorem packP_nm (p : Pg) (n : Int) : (packP p n).2.name = p.name := by
  unfold packP
  split
  · rfl
  · split
    · rfl
    · split <;> rfl
theorem crashP_nm (p : Pg) (n : Int) : (crashP p n).2.name = p.name := by
  unfold crashP
  split <;> rfl
theorem makeP_nm (p : Pg) (t : ByteArray) : (makeP p t).2.name = p.name := by
  unfold makeP
  split
  · rfl
  · split
    · rfl
    · exact editP_nm _ _
theorem pageD_nm (p : Pg) (d : Dd) : (pageD p d).2.2.name = p.name := by
  unfold pageD
  split
  · exact editP_nm _ _
  · split
    · exact makeP_nm _ _
    · split
      · exact backP_nm _
      · split
        · exact onP_nm _
        · split
          · rfl
          · split
            · exact packP_nm _ _
            · split
              · exact crashP_nm _ _
              · rfl
theorem editP_err {p : Pg} {l : List Ed} (h : (editP p l).1 ≠ 0) : (editP p l).2 = p := by
  unfold editP at h ⊢
  by_cases h1 : l = []
  · rw [if_pos h1]
  · rw [if_neg h1] at h ⊢
    by_cases h2 : leafE p.t p.H l ≠ 0
    · rw [if_pos h2]
    · rw [if_neg h2] at h; exact absurd rfl h
theorem backP_err {p : Pg} (h : (backP p).1 ≠ 0) : (backP p).2 = p := by
  unfold backP at h ⊢
  by_cases h1 : p.B = []
  · rw [if_pos h1]
  · rw [if_neg h1] at h ⊢
    by_cases h2 : fits p.H (p.B.getLastD ⟨#[]⟩)
    · rw [if_pos h2] at h; exact absurd rfl h
    · rw [if_neg h2]
theorem onP_err {p : Pg} (h : (onP p).1 ≠ 0) : (onP p).2 = p := by
  unfold onP at h ⊢
  by_cases h1 : p.O = []
  · rw [if_pos h1]
  · rw [if_neg h1] at h ⊢
    by_cases h2 : fits p.H (p.O.getLastD ⟨#[]⟩)
    · rw [if_pos h2] at h; exact absurd rfl h
    · rw [if_neg h2]
theorem packP_err {p : Pg} {n : Int} (h : (packP p n).1 ≠ 0) : (packP p n).2 = p := by
  unfold packP at h ⊢
  by_cases h1 : n < 0 ∨ 3 < n
  · rw [if_pos h1]
  · rw [if_neg h1] at h ⊢
    by_cases h2 : n = 1 ∨ n = 2
    · rw [if_pos h2] at h; exact absurd rfl h
    · rw [if_neg h2] at h ⊢
      by_cases h3 : n = 0
      · rw [if_pos h3] at h; exact absurd rfl h
      · rw [if_neg h3] at h; exact absurd rfl h
theorem crashP_err {p : Pg} {n : Int} (h : (crashP p n).1 ≠ 0) : (crashP p n).2 = p := by
  unfold crashP at h ⊢
  by_cases h1 : n < 0 ∨ ((framesL (recs p.H)).length : Int) - (safeN p : Int) < n
  · rw [if_pos h1]
  · rw [if_neg h1] at h; exact absurd rfl h
theorem makeP_err {p : Pg} {t : ByteArray} (h : (makeP p t).1 ≠ 0) : (makeP p t).2 = p := by
  unfold makeP at h ⊢
  by_cases h1 : ce p.t t ≠ 0
  · rw [if_pos h1]
  · rw [if_neg h1] at h ⊢
    by_cases h2 : 20 < cv p.t t
    · rw [if_pos h2]
    · rw [if_neg h2] at h ⊢; exact editP_err h
theorem pageD_err {p : Pg} {d : Dd} (h : (pageD p d).2.1 ≠ 0) : (pageD p d).2.2 = p := by
  unfold pageD at h ⊢
  by_cases h2 : d.kind = 2
  · simp only [if_pos h2] at h ⊢; exact editP_err h
  simp only [if_neg h2] at h ⊢
  by_cases h10 : d.kind = 10
  · simp only [if_pos h10] at h ⊢; exact makeP_err h
  simp only [if_neg h10] at h ⊢
  by_cases h3 : d.kind = 3
  · simp only [if_pos h3] at h ⊢; exact backP_err h
  simp only [if_neg h3] at h ⊢
  by_cases h4 : d.kind = 4
  · simp only [if_pos h4] at h ⊢; exact onP_err h
  simp only [if_neg h4] at h ⊢
  by_cases h5 : d.kind = 5
  · simp only [if_pos h5] at h; exact absurd rfl h
  simp only [if_neg h5] at h ⊢
  by_cases h6 : d.kind = 6
  · simp only [if_pos h6] at h ⊢; exact packP_err h
  simp only [if_neg h6] at h ⊢
  by_cases h7 : d.kind = 7
  · simp only [if_pos h7] at h ⊢; exact crashP_err h
  simp only [if_neg h7] at h ⊢

theorem pageD2 {p : Pg} {d : Dd} (h : d.kind = 2) : pageD p d = (⟨#[]⟩, editP p d.edits) := by
  unfold pageD
  rw [if_pos h]
theorem pageD10 {p : Pg} {d : Dd} (h : d.kind = 10) : pageD p d = (⟨#[]⟩, makeP p d.text) := by
  unfold pageD
  rw [if_neg (by omega), if_pos h]
theorem pageD3 {p : Pg} {d : Dd} (h : d.kind = 3) : pageD p d = (⟨#[]⟩, backP p) := by
  unfold pageD
  rw [if_neg (by omega), if_neg (by omega), if_pos h]
theorem pageD4 {p : Pg} {d : Dd} (h : d.kind = 4) : pageD p d = (⟨#[]⟩, onP p) := by
  unfold pageD
  rw [if_neg (by omega), if_neg (by omega), if_neg (by omega), if_pos h]
theorem pageD5 {p : Pg} {d : Dd} (h : d.kind = 5) : pageD p d = (⟨#[]⟩, 0, saveP p) := by
  unfold pageD
  rw [if_neg (by omega), if_neg (by omega), if_neg (by omega), if_neg (by omega), if_pos h]
theorem pageD6 {p : Pg} {d : Dd} (h : d.kind = 6) : pageD p d = (⟨#[]⟩, packP p d.n) := by
  unfold pageD
  rw [if_neg (by omega), if_neg (by omega), if_neg (by omega), if_neg (by omega), if_neg (by omega), if_pos h]
theorem pageD7 {p : Pg} {d : Dd} (h : d.kind = 7) : pageD p d = (⟨#[]⟩, crashP p d.n) := by
  unfold pageD
  rw [if_neg (by omega), if_neg (by omega), if_neg (by omega), if_neg (by omega), if_neg (by omega), if_neg (by omega), if_pos h]
theorem pageD8 {p : Pg} {d : Dd} (h : d.kind = 8) : pageD p d = (p.t, 0, p) := by
  unfold pageD
  rw [if_neg (by omega), if_neg (by omega), if_neg (by omega), if_neg (by omega), if_neg (by omega), if_neg (by omega), if_neg (by omega)]
/-- A deed at the one name that it is for. -/
noncomputable def oneD (full : Prop) [Decidable full] (o : Option Pg) (d : Dd) : ByteArray × Int × Option Pg :=
  if d.kind < 1 ∨ 10 < d.kind then (⟨#[]⟩, 1, o)
  else if nameE d.name ≠ 0 then (⟨#[]⟩, nameE d.name, o)
  else match o with
    | none => if d.kind = 1 then (if full then (⟨#[]⟩, 11, none) else if 200 < d.text.size then (⟨#[]⟩, 2, none) else (⟨#[]⟩, 0, some (newP d.name d.text))) else (⟨#[]⟩, 4, none)
    | some p => if d.kind = 1 then (⟨#[]⟩, 10, some p) else if d.kind = 9 then (⟨#[]⟩, 0, none) else ((pageD p d).1, (pageD p d).2.1, some (pageD p d).2.2)

theorem set_same {α : Type} : ∀ (P : List α) (i : Nat) (h : i < P.length), P.set i P[i] = P
  | x :: P, 0, _ => rfl
  | x :: P, i + 1, h => by rw [List.set_cons_succ, List.getElem_cons_succ, set_same P i]
theorem nodup_erase {α : Type} : ∀ (P : List α) (i : Nat), P.Nodup → (P.eraseIdx i).Nodup
  | [], _, h => h
  | x :: P, 0, h => (List.nodup_cons.1 h).2
  | x :: P, i + 1, h => by
    rw [List.nodup_cons] at h
    rw [List.eraseIdx_cons_succ, List.nodup_cons]
    exact ⟨fun hm => h.1 (List.mem_of_mem_eraseIdx hm), nodup_erase P i h.2⟩

/-- What a deed comes to. -/
structure OneTo (P : List Pg) (d : Dd) (r : ByteArray × Int × Option Pg) (R : ByteArray × Int × List Pg) : Prop where
  told : R.1 = r.1
  err : R.2.1 = r.2.1
  page : pageOf d.name R.2.2 = r.2.2
  other : ∀ s, s ≠ d.name → pageOf s R.2.2 = pageOf s P
  ok : HOk R.2.2
  same : r.2.1 ≠ 0 → R.2.2 = P
  grows : R.2.2.length ≤ P.length + 1
  stays : d.kind ≠ 1 → R.2.2.length ≤ P.length
theorem OneTo.stay {P : List Pg} {d : Dd} (hP : HOk P) {a : ByteArray} {e : Int} {o : Option Pg} (ho : pageOf d.name P = o) : OneTo P d (a, e, o) (a, e, P) :=
  ⟨rfl, rfl, ho, fun _ _ => rfl, hP, fun _ => rfl, Nat.le_succ _, fun _ => Nat.le_refl _⟩
theorem house_one {P : List Pg} (hP : HOk P) (d : Dd) : OneTo P d (oneD (P.length = 6) (pageOf d.name P) d) (houseD P d) := by
  unfold oneD houseD
  by_cases h1 : d.kind < 1 ∨ 10 < d.kind
  · rw [if_pos h1, if_pos h1]; exact OneTo.stay hP rfl
  rw [if_neg h1, if_neg h1]
  by_cases h2 : nameE d.name ≠ 0
  · rw [if_pos h2, if_pos h2]; exact OneTo.stay hP rfl
  rw [if_neg h2, if_neg h2]
  have hn0 : nameE d.name = 0 := by simpa using h2
  cases ho : pageOf d.name P with
  | none =>
    obtain ⟨hne, hpl⟩ := pageOf_none ho
    rw [hpl 0]
    show OneTo P d (if d.kind = 1 then _ else _) _
    by_cases hk : d.kind = 1
    · rw [if_pos hk, if_pos hk, if_neg (show ¬ ((0 : Int) ≤ -1) by decide)]
      by_cases h6 : P.length = 6
      · rw [if_pos h6, if_pos h6]; exact OneTo.stay hP ho
      rw [if_neg h6, if_neg h6]
      by_cases hz : 200 < d.text.size
      · rw [if_pos hz, if_pos hz]; exact OneTo.stay hP ho
      rw [if_neg hz, if_neg hz]
      refine ⟨rfl, rfl, ?_, fun s hs => pageOf_snoc_ne s _ (fun e => hs e.symm) P, ⟨?_, ?_, ?_⟩, fun h => absurd rfl h, ?_, fun h => absurd hk h⟩
      · show pageOf d.name (P ++ [newP d.name d.text]) = _
        rw [pageOf_snoc _ _ _ ho, if_pos (show (newP d.name d.text).name = d.name from rfl)]
      · have := hP.few
        show (P ++ [newP d.name d.text]).length ≤ 6
        rw [List.length_append, List.length_singleton]; omega
      · show ((P ++ [newP d.name d.text]).map (·.name)).Nodup
        rw [List.map_append, List.nodup_append]
        refine ⟨hP.nd, by simp, fun a ha b hb => ?_⟩
        obtain ⟨p, hp, rfl⟩ := List.mem_map.1 ha
        have hb' : b = d.name := by simpa [newP] using hb
        rw [hb']
        exact hne p hp
      · intro p hp
        rcases List.mem_append.1 hp with hp | hp
        · exact hP.nm p hp
        · rw [List.mem_singleton.1 hp]; exact hn0
      · show (P ++ [newP d.name d.text]).length ≤ _
        rw [List.length_append, List.length_singleton]
        exact Nat.le_refl _
    · rw [if_neg hk, if_neg hk, if_pos (show (-1 : Int) < 0 by decide)]; exact OneTo.stay hP ho
  | some p =>
    obtain ⟨hnm, i, hi, hpi, hpl⟩ := pageOf_some ho
    have hpl0 : placeN d.name P 0 = (i : Int) := by rw [hpl 0, Nat.zero_add]
    rw [hpl0]
    show OneTo P d (if d.kind = 1 then _ else _) _
    have hin : P[i].name = d.name := by rw [hpi]; exact hnm
    by_cases hk : d.kind = 1
    · rw [if_pos hk, if_pos hk, if_pos (show (0 : Int) ≤ (i : Int) by omega)]; exact OneTo.stay hP ho
    rw [if_neg hk, if_neg hk, if_neg (show ¬ ((i : Int) < 0) by omega)]
    by_cases h9 : d.kind = 9
    · rw [if_pos h9, if_pos h9, Int.toNat_natCast]
      refine ⟨rfl, rfl, pageOf_erase _ P i hi hin hP.nd, fun s hs => pageOf_erase_ne s P i hi (fun e => hs (by rw [← e, hin])), ⟨?_, ?_, fun q hq => hP.nm q (List.mem_of_mem_eraseIdx hq)⟩, fun h => absurd rfl h, ?_, fun _ => ?_⟩
      · exact Nat.le_trans (List.length_eraseIdx_le ..) hP.few
      · show ((P.eraseIdx i).map (·.name)).Nodup
        rw [map_erase]; exact nodup_erase _ _ hP.nd
      · exact Nat.le_succ_of_le (List.length_eraseIdx_le ..)
      · exact List.length_eraseIdx_le ..
    rw [if_neg h9, if_neg h9, Int.toNat_natCast]
    have hg : P.getD i pg0 = p := by rw [List.getD_eq_getElem?_getD, List.getElem?_eq_getElem hi, hpi]; rfl
    rw [hg]
    have hpn : (pageD p d).2.2.name = d.name := by rw [pageD_nm, hnm]
    refine ⟨rfl, rfl, pageOf_set _ _ hpn P i hi hin hP.nd, fun s hs => pageOf_set_ne s _ (fun e => hs (by rw [← e, hpn])) P i hi (fun e => hs (by rw [← e, hin])), ⟨?_, ?_, ?_⟩, fun h => ?_, ?_, fun _ => ?_⟩
    · show (P.set i _).length ≤ 6
      rw [List.length_set]; exact hP.few
    · show ((P.set i _).map (·.name)).Nodup
      rw [List.map_set, hpn, ← hin, show P[i].name = (P.map (·.name))[i]'(by simpa using hi) by simp, set_same]
      exact hP.nd
    · intro q hq
      rcases List.mem_or_eq_of_mem_set hq with h | h
      · exact hP.nm q h
      · rw [h, hpn]; exact hn0
    · show P.set i (pageD p d).2.2 = P
      rw [pageD_err h, ← hpi, set_same]
    · show (P.set i _).length ≤ _
      rw [List.length_set]; omega
    · show (P.set i _).length ≤ _
      rw [List.length_set]; exact Nat.le_refl _
end Go.Proofs.YtaogegpfapfchaaGreatDoor

/- The walk of a house's Do, whatever the deed is. -/
namespace Go.Proofs.YtaogegpfapfchaaGreatDoor
open Go.RowKit
set_option linter.unusedVariables false

/-- A deed whose edits lie there. -/
structure DeedAt (w : World) (d : Dd) (Ad : Option Addr) (cd : Nat) : Prop where
  eds : EdsAt w Ad d.edits.length cd d.edits
  name : d.name.size ≤ 140737488351232
  num : -9223372036854775808 ≤ d.n ∧ d.n ≤ 9223372036854775807
theorem DeedAt.after {w w' : World} {d : Dd} {Ad : Option Addr} {cd : Nat} (h : DeedAt w d Ad cd) (hb : Below w.heap.size w w') : DeedAt w' d Ad cd := ⟨h.eds.after hb, h.name, h.num⟩

theorem houseD_set {P : List Pg} {d : Dd} {k : Nat} (hk : 2 ≤ d.kind ∧ d.kind ≤ 10) (h9 : d.kind ≠ 9) (hn : nameE d.name = 0) (hp : placeN d.name P 0 = (k : Int)) {p : Pg} (hP : P[k]? = some p) : houseD P d = ((pageD p d).1, (pageD p d).2.1, P.set k (pageD p d).2.2) := by
  have hg : P.getD k pg0 = p := by rw [List.getD_eq_getElem?_getD, hP]; rfl
  unfold houseD
  rw [if_neg (by omega), if_neg (by rw [hn]; decide), if_neg (by omega), hp, if_neg (by omega), if_neg h9, Int.toNat_natCast, hg]
theorem do_any (own : Nat → Nat) (w : World) (gh : Nat) (Q : List (Pl × Pg)) (h : HouseAt own w gh Q) (hQ : Q.length ≤ 6) (ht : Tab w) (d : Dd) (Ad : Option Addr) (cd : Nat) (hd : DeedAt w d Ad cd) :
    Calls Tryz.prog 32 #[.pointer (some ⟨gh, 0, none⟩), .agg (cDeed d Ad cd)] w fun e w' => e = .returned (.tuple #[.string (houseD (Q.map (·.2)) d).1, .int .i64 (houseD (Q.map (·.2)) d).2.1]) ∧ HouseTo own w gh Q (houseD (Q.map (·.2)) d).2.2 w' := by
  by_cases hk : d.kind < 1 ∨ 10 < d.kind
  · have e : houseD (Q.map (·.2)) d = (⟨#[]⟩, 1, Q.map (·.2)) := by unfold houseD; rw [if_pos hk]
    rw [e]
    exact do_kind own w gh Q h d Ad cd hk
  have hk' : 1 ≤ d.kind ∧ d.kind ≤ 10 := by omega
  by_cases hn : nameE d.name ≠ 0
  · have e : houseD (Q.map (·.2)) d = (⟨#[]⟩, nameE d.name, Q.map (·.2)) := by unfold houseD; rw [if_neg hk, if_pos hn]
    rw [e]
    exact do_name own w gh Q h d Ad cd hk' hn hd.name
  have hn0 : nameE d.name = 0 := by simpa using hn
  by_cases h1 : d.kind = 1
  · have e : houseD (Q.map (·.2)) d = (⟨#[]⟩, beginE (placeN d.name (Q.map (·.2)) 0) (Q.map (·.2)) d, beginP (placeN d.name (Q.map (·.2)) 0) (Q.map (·.2)) d) := by
      unfold houseD beginP beginE
      rw [if_neg hk, if_neg hn, if_pos h1]
      by_cases c1 : 0 ≤ placeN d.name (Q.map (·.2)) 0
      · rw [if_pos c1, if_pos c1, if_neg (by decide)]
      rw [if_neg c1, if_neg c1]
      by_cases c2 : (Q.map (·.2)).length = 6
      · rw [if_pos c2, if_pos c2, if_neg (by decide)]
      rw [if_neg c2, if_neg c2]
      by_cases c3 : 200 < d.text.size
      · rw [if_pos c3, if_pos c3, if_neg (by decide)]
      rw [if_neg c3, if_neg c3, if_pos rfl]
    rw [e]
    exact do_begin own w gh Q h hQ d Ad cd h1 hn0 hd.name
  have hk2 : 2 ≤ d.kind ∧ d.kind ≤ 10 := by omega
  by_cases hp : placeN d.name (Q.map (·.2)) 0 < 0
  · have e : houseD (Q.map (·.2)) d = (⟨#[]⟩, 4, Q.map (·.2)) := by unfold houseD; rw [if_neg hk, if_neg hn, if_neg h1, if_pos hp]
    rw [e]
    exact do_none own w gh Q h hQ d Ad cd hk2 hp hn0 hd.name
  obtain ⟨k, hkp⟩ : ∃ k : Nat, placeN d.name (Q.map (·.2)) 0 = (k : Int) := ⟨(placeN d.name (Q.map (·.2)) 0).toNat, by omega⟩
  have hkl : k < Q.length := by
    rcases placeN_bd d.name (Q.map (·.2)) 0 with hb | ⟨_, hb⟩
    · rw [hkp, List.length_map] at hb; omega
    · omega
  have hPk : (Q.map (·.2))[k]? = some Q[k].2 := by rw [List.getElem?_map, List.getElem?_eq_getElem hkl]; rfl
  by_cases h9 : d.kind = 9
  · have e : houseD (Q.map (·.2)) d = (⟨#[]⟩, 0, (Q.map (·.2)).eraseIdx k) := by unfold houseD; rw [if_neg hk, if_neg hn, if_neg h1, if_neg hp, if_pos h9, hkp, Int.toNat_natCast]
    rw [e]
    exact do_drop own w gh Q h hQ d Ad cd h9 k hkl hkp hn0 hd.name
  rw [houseD_set hk2 h9 hn0 hkp hPk]
  unfold pageD
  by_cases k2 : d.kind = 2
  · simp only [if_pos k2]; exact do_edit own w gh Q h hQ d Ad cd k2 ht hd.eds k hkl hkp hn0 hd.name
  simp only [if_neg k2]
  by_cases k10 : d.kind = 10
  · simp only [if_pos k10]; exact do_make own w gh Q h hQ d Ad cd k10 ht k hkl hkp hn0 hd.name
  simp only [if_neg k10]
  by_cases k3 : d.kind = 3
  · simp only [if_pos k3]; exact do_back own w gh Q h hQ d Ad cd k3 k hkl hkp hn0 hd.name
  simp only [if_neg k3]
  by_cases k4 : d.kind = 4
  · simp only [if_pos k4]; exact do_on own w gh Q h hQ d Ad cd k4 k hkl hkp hn0 hd.name
  simp only [if_neg k4]
  by_cases k5 : d.kind = 5
  · simp only [if_pos k5]; exact do_save own w gh Q h hQ d Ad cd k5 k hkl hkp hn0 hd.name
  simp only [if_neg k5]
  by_cases k6 : d.kind = 6
  · simp only [if_pos k6]; exact do_pack own w gh Q h hQ d Ad cd k6 k hkl hkp hn0 hd.name
  simp only [if_neg k6]
  by_cases k7 : d.kind = 7
  · simp only [if_pos k7]; exact do_crash own w gh Q h hQ d Ad cd k7 hd.num k hkl hkp hn0 hd.name
  simp only [if_neg k7]
  have k8 : d.kind = 8 := by omega
  have hs : (Q.map (·.2)).set k Q[k].2 = Q.map (·.2) := by
    have e : Q[k].2 = (Q.map (·.2))[k]'(by simpa using hkl) := by simp
    rw [e, set_same]
  rw [hs]
  exact do_text own w gh Q h hQ d Ad cd k8 k hkl hkp hn0 hd.name
end Go.Proofs.YtaogegpfapfchaaGreatDoor

