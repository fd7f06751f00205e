import Derived.Test.YtaogegpfapfchaaGreatDoorDeskM31
/- Several texts in one: XHouseDo6 XHouseDo7 XHouseDo8 XHouseDo9. -/
/- The walk of a house's Do: a page's steps. -/
namespace Go.Proofs.YtaogegpfapfchaaGreatDoor
open Go.RowKit
set_option linter.unusedVariables false

theorem backP_name (p : Pg) : (backP p).2.name = p.name := by
  unfold backP
  by_cases h1 : p.B = []
  · rw [if_pos h1]
  · rw [if_neg h1]
    by_cases h2 : fits p.H (p.B.getLastD ⟨#[]⟩)
    · rw [if_pos h2]
    · rw [if_neg h2]
theorem onP_name (p : Pg) : (onP p).2.name = p.name := by
  unfold onP
  by_cases h1 : p.O = []
  · rw [if_pos h1]
  · rw [if_neg h1]
    by_cases h2 : fits p.H (p.O.getLastD ⟨#[]⟩)
    · rw [if_pos h2]
    · rw [if_neg h2]

set_option maxHeartbeats 1000000 in
theorem do_back (own : Nat → Nat) (w : World) (gh : Nat) (Q : List (Pl × Pg)) (h : HouseAt own w gh Q) (hQ : Q.length ≤ 6) (d : Dd) (Ad : Option Addr) (cd : Nat) (hk : d.kind = 3) (k : Nat) (hkl : k < Q.length) (hp : placeN d.name (Q.map (·.2)) 0 = (k : Int)) (hn : nameE d.name = 0) (hs : d.name.size ≤ 140737488351232) :
    Calls Tryz.prog 32 #[.pointer (some ⟨gh, 0, none⟩), .agg (cDeed d Ad cd)] w fun e w' => e = .returned (.tuple #[.string ⟨#[]⟩, .int .i64 (backP Q[k].2).1]) ∧ HouseTo own w gh Q ((Q.map (·.2)).set k (backP Q[k].2).2) w' := by
  have hba : Below w.heap.size w (w.alloc (Obj.cells (cDeed d Ad cd) 70)) := (Below.refl _ _).alloc (Nat.le_refl _) _
  have hbd := Blk.new w 70 (cDeed d Ad cd)
  have N := Lib.hid (name_any d.name hs)
  rw [hn] at N
  have b0 := hbd.cell 0
  have b2 := hbd.cell 2
  have HH := Lib.hid h
  unfold cDeed at b0 b2
  have qa : decide (d.kind < 1) = false := decide_eq_false (by omega)
  have qb : decide (10 < d.kind) = false := decide_eq_false (by omega)
  have q1 : (d.kind == 1) = false := by rw [hk]; rfl
  have q2 : (d.kind == 2) = false := by rw [hk]; rfl
  have q10 : (d.kind == 10) = false := by rw [hk]; rfl
  have q3 : (d.kind == 3) = true := by rw [hk]; rfl
  have q4 : (d.kind == 4) = false := by rw [hk]; rfl
  have q5 : (d.kind == 5) = false := by rw [hk]; rfl
  have q6 : (d.kind == 6) = false := by rw [hk]; rfl
  have q7 : (d.kind == 7) = false := by rw [hk]; rfl
  have q8 : (d.kind == 8) = false := by rw [hk]; rfl
  have Hp := Lib.hid hp
  clear h hk hn hp
  go_enter Tryz.func32, Tryz.ntmps32
  unfold cDeed at hba hbd ⊢
  go_wp2_with fail
  refine (N.out _).mono ?_
  rintro e w1 ⟨rfl, hb1⟩
  have hbd1 := hbd.after hb1
  have hb1 := chain hb1 hba
  have hh1 := HH.out.apart (Goes.of_below (own := own) (S := fun _ => False) hb1) (fun _ _ h => h)
  obtain ⟨⟨A, n, c, hB, hrow, hQl, _⟩, how, hpg, hids⟩ := hh1
  have d0 := hB.cell 0
  have e0 := hbd1.cell 0
  have I := Lib.hid (indexPage w.heap.size d Ad cd A n c w1.heap.size Q hQl (by omega) w1 hrow.toReads (Nat.le_refl _) hbd1)
  rw [Hp.out] at I
  clear hbd N b0 b2 hba
  go_wp2_with fail
  refine I.out.mono ?_
  rintro e w2 ⟨rfl, hb2⟩
  have hbd2 := hbd1.after hb2
  obtain ⟨g, o, rfl, _⟩ := hrow.shape (by omega)
  obtain ⟨hog, hgl, hra⟩ := row_page (k := k) hpg hids hrow hQl (by omega)
  have hra2 := hra.after hb2
  have hh2 := HH.out.apart (Goes.of_below (own := own) (S := fun _ => False) (chain hb2 hb1)) (fun _ _ h => h)
  have hpg2 : ∀ y ∈ Q, PageAt own w2 y.1 y.2 := hh2.page
  have hlt2 := hh2.lt
  have hB2 := hB.after hb2
  have g0 := hB2.cell 0
  have c0 := hbd2.cell 0
  have c4 := hbd2.cell 4
  have hkn : k < n := by omega
  have hrow2 : OwnK 66 3 w2 (fun k => k < w2.heap.size ∧ own k ≠ gh) (some ⟨g, o, none⟩) n c (Q.flatMap cPage) := by
    refine (hrow.after hb2).weak fun b hq hh => ?_
    have := hrow.lt b hq
    exact this.1 ⟨this.2, hh.2⟩
  have hb2 := chain hb2 hb1
  have E := Lib.hid (pageBack own w2 Q[k].1 Q[k].2 g (o + k * 3) hra2 (hpg2 _ (List.getElem_mem _)))
  clear I hbd1 d0 e0 HH hbd2 hB hrow hpg hra hh2
  go_wp2_with fail
  refine E.out.mono ?_
  rintro e w3 ⟨own', rfl, hp3, hg3⟩
  have HT := Lib.hid (house_put hB2 hrow2 hQl how hpg2 hids hlt2 hkl (backP_name _) (PageTo.stay hp3 hg3))
  clear E
  go_wp2
  go_ret2
  exact ⟨rfl, HT.out.before hb2⟩

set_option maxHeartbeats 1000000 in
theorem do_on (own : Nat → Nat) (w : World) (gh : Nat) (Q : List (Pl × Pg)) (h : HouseAt own w gh Q) (hQ : Q.length ≤ 6) (d : Dd) (Ad : Option Addr) (cd : Nat) (hk : d.kind = 4) (k : Nat) (hkl : k < Q.length) (hp : placeN d.name (Q.map (·.2)) 0 = (k : Int)) (hn : nameE d.name = 0) (hs : d.name.size ≤ 140737488351232) :
    Calls Tryz.prog 32 #[.pointer (some ⟨gh, 0, none⟩), .agg (cDeed d Ad cd)] w fun e w' => e = .returned (.tuple #[.string ⟨#[]⟩, .int .i64 (onP Q[k].2).1]) ∧ HouseTo own w gh Q ((Q.map (·.2)).set k (onP Q[k].2).2) w' := by
  have hba : Below w.heap.size w (w.alloc (Obj.cells (cDeed d Ad cd) 70)) := (Below.refl _ _).alloc (Nat.le_refl _) _
  have hbd := Blk.new w 70 (cDeed d Ad cd)
  have N := Lib.hid (name_any d.name hs)
  rw [hn] at N
  have b0 := hbd.cell 0
  have b2 := hbd.cell 2
  have HH := Lib.hid h
  unfold cDeed at b0 b2
  have qa : decide (d.kind < 1) = false := decide_eq_false (by omega)
  have qb : decide (10 < d.kind) = false := decide_eq_false (by omega)
  have q1 : (d.kind == 1) = false := by rw [hk]; rfl
  have q2 : (d.kind == 2) = false := by rw [hk]; rfl
  have q10 : (d.kind == 10) = false := by rw [hk]; rfl
  have q3 : (d.kind == 3) = false := by rw [hk]; rfl
  have q4 : (d.kind == 4) = true := by rw [hk]; rfl
  have q5 : (d.kind == 5) = false := by rw [hk]; rfl
  have q6 : (d.kind == 6) = false := by rw [hk]; rfl
  have q7 : (d.kind == 7) = false := by rw [hk]; rfl
  have q8 : (d.kind == 8) = false := by rw [hk]; rfl
  have Hp := Lib.hid hp
  clear h hk hn hp
  go_enter Tryz.func32, Tryz.ntmps32
  unfold cDeed at hba hbd ⊢
  go_wp2_with fail
  refine (N.out _).mono ?_
  rintro e w1 ⟨rfl, hb1⟩
  have hbd1 := hbd.after hb1
  have hb1 := chain hb1 hba
  have hh1 := HH.out.apart (Goes.of_below (own := own) (S := fun _ => False) hb1) (fun _ _ h => h)
  obtain ⟨⟨A, n, c, hB, hrow, hQl, _⟩, how, hpg, hids⟩ := hh1
  have d0 := hB.cell 0
  have e0 := hbd1.cell 0
  have I := Lib.hid (indexPage w.heap.size d Ad cd A n c w1.heap.size Q hQl (by omega) w1 hrow.toReads (Nat.le_refl _) hbd1)
  rw [Hp.out] at I
  clear hbd N b0 b2 hba
  go_wp2_with fail
  refine I.out.mono ?_
  rintro e w2 ⟨rfl, hb2⟩
  have hbd2 := hbd1.after hb2
  obtain ⟨g, o, rfl, _⟩ := hrow.shape (by omega)
  obtain ⟨hog, hgl, hra⟩ := row_page (k := k) hpg hids hrow hQl (by omega)
  have hra2 := hra.after hb2
  have hh2 := HH.out.apart (Goes.of_below (own := own) (S := fun _ => False) (chain hb2 hb1)) (fun _ _ h => h)
  have hpg2 : ∀ y ∈ Q, PageAt own w2 y.1 y.2 := hh2.page
  have hlt2 := hh2.lt
  have hB2 := hB.after hb2
  have g0 := hB2.cell 0
  have c0 := hbd2.cell 0
  have c4 := hbd2.cell 4
  have hkn : k < n := by omega
  have hrow2 : OwnK 66 3 w2 (fun k => k < w2.heap.size ∧ own k ≠ gh) (some ⟨g, o, none⟩) n c (Q.flatMap cPage) := by
    refine (hrow.after hb2).weak fun b hq hh => ?_
    have := hrow.lt b hq
    exact this.1 ⟨this.2, hh.2⟩
  have hb2 := chain hb2 hb1
  have E := Lib.hid (pageOn own w2 Q[k].1 Q[k].2 g (o + k * 3) hra2 (hpg2 _ (List.getElem_mem _)))
  clear I hbd1 d0 e0 HH hbd2 hB hrow hpg hra hh2
  go_wp2_with fail
  refine E.out.mono ?_
  rintro e w3 ⟨own', rfl, hp3, hg3⟩
  have HT := Lib.hid (house_put hB2 hrow2 hQl how hpg2 hids hlt2 hkl (onP_name _) (PageTo.stay hp3 hg3))
  clear E
  go_wp2
  go_ret2
  exact ⟨rfl, HT.out.before hb2⟩
end Go.Proofs.YtaogegpfapfchaaGreatDoor

/- The walk of a house's Do: a page's pack. -/
namespace Go.Proofs.YtaogegpfapfchaaGreatDoor
open Go.RowKit
set_option linter.unusedVariables false

theorem packP_name (p : Pg) (n : Int) : (packP p n).2.name = p.name := by
  unfold packP
  split
  · rfl
  · split
    · rfl
    · split <;> rfl

set_option maxHeartbeats 1000000 in
theorem do_pack (own : Nat → Nat) (w : World) (gh : Nat) (Q : List (Pl × Pg)) (h : HouseAt own w gh Q) (hQ : Q.length ≤ 6) (d : Dd) (Ad : Option Addr) (cd : Nat) (hk : d.kind = 6) (k : Nat) (hkl : k < Q.length) (hp : placeN d.name (Q.map (·.2)) 0 = (k : Int)) (hn : nameE d.name = 0) (hs : d.name.size ≤ 140737488351232) :
    Calls Tryz.prog 32 #[.pointer (some ⟨gh, 0, none⟩), .agg (cDeed d Ad cd)] w fun e w' => e = .returned (.tuple #[.string ⟨#[]⟩, .int .i64 (packP Q[k].2 d.n).1]) ∧ HouseTo own w gh Q ((Q.map (·.2)).set k (packP Q[k].2 d.n).2) w' := by
  have hba : Below w.heap.size w (w.alloc (Obj.cells (cDeed d Ad cd) 70)) := (Below.refl _ _).alloc (Nat.le_refl _) _
  have hbd := Blk.new w 70 (cDeed d Ad cd)
  have N := Lib.hid (name_any d.name hs)
  rw [hn] at N
  have b0 := hbd.cell 0
  have b2 := hbd.cell 2
  have HH := Lib.hid h
  unfold cDeed at b0 b2
  have qa : decide (d.kind < 1) = false := decide_eq_false (by omega)
  have qb : decide (10 < d.kind) = false := decide_eq_false (by omega)
  have q1 : (d.kind == 1) = false := by rw [hk]; rfl
  have q2 : (d.kind == 2) = false := by rw [hk]; rfl
  have q10 : (d.kind == 10) = false := by rw [hk]; rfl
  have q3 : (d.kind == 3) = false := by rw [hk]; rfl
  have q4 : (d.kind == 4) = false := by rw [hk]; rfl
  have q5 : (d.kind == 5) = false := by rw [hk]; rfl
  have q6 : (d.kind == 6) = true := by rw [hk]; rfl
  have q7 : (d.kind == 7) = false := by rw [hk]; rfl
  have q8 : (d.kind == 8) = false := by rw [hk]; rfl
  have Hp := Lib.hid hp
  clear h hk hn hp
  go_enter Tryz.func32, Tryz.ntmps32
  unfold cDeed at hba hbd ⊢
  go_wp2_with fail
  refine (N.out _).mono ?_
  rintro e w1 ⟨rfl, hb1⟩
  have hbd1 := hbd.after hb1
  have hb1 := chain hb1 hba
  have hh1 := HH.out.apart (Goes.of_below (own := own) (S := fun _ => False) hb1) (fun _ _ h => h)
  obtain ⟨⟨A, n, c, hB, hrow, hQl, _⟩, how, hpg, hids⟩ := hh1
  have d0 := hB.cell 0
  have e0 := hbd1.cell 0
  have I := Lib.hid (indexPage w.heap.size d Ad cd A n c w1.heap.size Q hQl (by omega) w1 hrow.toReads (Nat.le_refl _) hbd1)
  rw [Hp.out] at I
  clear hbd N b0 b2 hba
  go_wp2_with fail
  refine I.out.mono ?_
  rintro e w2 ⟨rfl, hb2⟩
  have hbd2 := hbd1.after hb2
  obtain ⟨g, o, rfl, _⟩ := hrow.shape (by omega)
  obtain ⟨hog, hgl, hra⟩ := row_page (k := k) hpg hids hrow hQl (by omega)
  have hra2 := hra.after hb2
  have hh2 := HH.out.apart (Goes.of_below (own := own) (S := fun _ => False) (chain hb2 hb1)) (fun _ _ h => h)
  have hpg2 : ∀ y ∈ Q, PageAt own w2 y.1 y.2 := hh2.page
  have hlt2 := hh2.lt
  have hB2 := hB.after hb2
  have g0 := hB2.cell 0
  have c0 := hbd2.cell 0
  have c1 := hbd2.cell 1
  have hkn : k < n := by omega
  have hrow2 : OwnK 66 3 w2 (fun k => k < w2.heap.size ∧ own k ≠ gh) (some ⟨g, o, none⟩) n c (Q.flatMap cPage) := by
    refine (hrow.after hb2).weak fun b hq hh => ?_
    have := hrow.lt b hq
    exact this.1 ⟨this.2, hh.2⟩
  have hb2 := chain hb2 hb1
  have E := Lib.hid (pagePack own w2 Q[k].1 Q[k].2 g (o + k * 3) d.n hra2 (by rw [hog]; exact hB2.lt) (hpg2 _ (List.getElem_mem _)))
  clear I hbd1 d0 e0 HH hbd2 hB hrow hpg hra hh2
  go_wp2_with fail
  refine E.out.mono ?_
  rintro e w3 ⟨rfl, hp3⟩
  have HT := Lib.hid (house_put hB2 hrow2 hQl how hpg2 hids hlt2 hkl (packP_name _ _) hp3)
  clear E
  go_wp2
  go_ret2
  exact ⟨rfl, HT.out.before hb2⟩

end Go.Proofs.YtaogegpfapfchaaGreatDoor

/- The walk of a house's Do: a page saved. -/
namespace Go.Proofs.YtaogegpfapfchaaGreatDoor
open Go.RowKit
set_option linter.unusedVariables false

set_option maxHeartbeats 1000000 in
theorem do_save (own : Nat → Nat) (w : World) (gh : Nat) (Q : List (Pl × Pg)) (h : HouseAt own w gh Q) (hQ : Q.length ≤ 6) (d : Dd) (Ad : Option Addr) (cd : Nat) (hk : d.kind = 5) (k : Nat) (hkl : k < Q.length) (hp : placeN d.name (Q.map (·.2)) 0 = (k : Int)) (hn : nameE d.name = 0) (hs : d.name.size ≤ 140737488351232) :
    Calls Tryz.prog 32 #[.pointer (some ⟨gh, 0, none⟩), .agg (cDeed d Ad cd)] w fun e w' => e = .returned (.tuple #[.string ⟨#[]⟩, .int .i64 0]) ∧ HouseTo own w gh Q ((Q.map (·.2)).set k (saveP Q[k].2)) w' := by
  have hba : Below w.heap.size w (w.alloc (Obj.cells (cDeed d Ad cd) 70)) := (Below.refl _ _).alloc (Nat.le_refl _) _
  have hbd := Blk.new w 70 (cDeed d Ad cd)
  have N := Lib.hid (name_any d.name hs)
  rw [hn] at N
  have b0 := hbd.cell 0
  have b2 := hbd.cell 2
  have HH := Lib.hid h
  unfold cDeed at b0 b2
  have qa : decide (d.kind < 1) = false := decide_eq_false (by omega)
  have qb : decide (10 < d.kind) = false := decide_eq_false (by omega)
  have q1 : (d.kind == 1) = false := by rw [hk]; rfl
  have q2 : (d.kind == 2) = false := by rw [hk]; rfl
  have q10 : (d.kind == 10) = false := by rw [hk]; rfl
  have q3 : (d.kind == 3) = false := by rw [hk]; rfl
  have q4 : (d.kind == 4) = false := by rw [hk]; rfl
  have q5 : (d.kind == 5) = true := by rw [hk]; rfl
  have q6 : (d.kind == 6) = false := by rw [hk]; rfl
  have q7 : (d.kind == 7) = false := by rw [hk]; rfl
  have q8 : (d.kind == 8) = false := by rw [hk]; rfl
  have Hp := Lib.hid hp
  clear h hk hn hp
  go_enter Tryz.func32, Tryz.ntmps32
  unfold cDeed at hba hbd ⊢
  go_wp2_with fail
  refine (N.out _).mono ?_
  rintro e w1 ⟨rfl, hb1⟩
  have hbd1 := hbd.after hb1
  have hb1 := chain hb1 hba
  have hh1 := HH.out.apart (Goes.of_below (own := own) (S := fun _ => False) hb1) (fun _ _ h => h)
  obtain ⟨⟨A, n, c, hB, hrow, hQl, _⟩, how, hpg, hids⟩ := hh1
  have d0 := hB.cell 0
  have e0 := hbd1.cell 0
  have I := Lib.hid (indexPage w.heap.size d Ad cd A n c w1.heap.size Q hQl (by omega) w1 hrow.toReads (Nat.le_refl _) hbd1)
  rw [Hp.out] at I
  clear hbd N b0 b2 hba
  go_wp2_with fail
  refine I.out.mono ?_
  rintro e w2 ⟨rfl, hb2⟩
  have hbd2 := hbd1.after hb2
  obtain ⟨g, o, rfl, _⟩ := hrow.shape (by omega)
  obtain ⟨hog, hgl, hra⟩ := row_page (k := k) hpg hids hrow hQl (by omega)
  have hra2 := hra.after hb2
  have hh2 := HH.out.apart (Goes.of_below (own := own) (S := fun _ => False) (chain hb2 hb1)) (fun _ _ h => h)
  have hpg2 : ∀ y ∈ Q, PageAt own w2 y.1 y.2 := hh2.page
  have hlt2 := hh2.lt
  have hB2 := hB.after hb2
  have g0 := hB2.cell 0
  have c0 := hbd2.cell 0
  have c1 := hbd2.cell 1
  have hkn : k < n := by omega
  have hrow2 : OwnK 66 3 w2 (fun k => k < w2.heap.size ∧ own k ≠ gh) (some ⟨g, o, none⟩) n c (Q.flatMap cPage) := by
    refine (hrow.after hb2).weak fun b hq hh => ?_
    have := hrow.lt b hq
    exact this.1 ⟨this.2, hh.2⟩
  have hb2 := chain hb2 hb1
  have hP := hpg2 _ (List.getElem_mem (l := Q) (n := k) hkl)
  have p2 := hra2.c2
  have E := Lib.hid (leafSave Q[k].1.gl Q[k].1.g Q[k].2.j Q[k].2.t Q[k].2.H w2 hP.leaf.at_)
  clear I hbd1 d0 e0 HH hbd2 hB hrow hpg hra hh2
  go_wp2_with fail
  refine E.out.mono ?_
  rintro e w3 ⟨rfl, hl3, ho3⟩
  obtain ⟨hlf3, hg3⟩ := hP.leaf.goes hl3 ho3
  have hp3 : PageAt own w3 Q[k].1 (saveP Q[k].2) := ⟨hP.ed.apart hg3 hP.ne, hlf3, hP.ne, okOf (p := saveP Q[k].2) hlf3.at_ hP.ok.few hP.ok.back hP.ok.onward⟩
  have HT := Lib.hid (house_put (p' := saveP Q[k].2) hB2 hrow2 hQl how hpg2 hids hlt2 hkl rfl (PageTo.stay hp3 (hg3.wide fun k hk => .inr hk)))
  clear E
  go_wp2
  go_ret2
  exact ⟨rfl, HT.out.before hb2⟩

end Go.Proofs.YtaogegpfapfchaaGreatDoor

/- The walk of a house's Do: a page's crash. -/
namespace Go.Proofs.YtaogegpfapfchaaGreatDoor
open Go.RowKit
set_option linter.unusedVariables false

set_option maxHeartbeats 1000000 in
theorem do_crash_no (own : Nat → Nat) (w : World) (gh : Nat) (Q : List (Pl × Pg)) (h : HouseAt own w gh Q) (hQ : Q.length ≤ 6) (d : Dd) (Ad : Option Addr) (cd : Nat) (hk : d.kind = 7) (hdn : -9223372036854775808 ≤ d.n ∧ d.n ≤ 9223372036854775807) (k : Nat) (hkl : k < Q.length) (hcr : crashNo Q[k].2 d.n) (hp : placeN d.name (Q.map (·.2)) 0 = (k : Int)) (hn : nameE d.name = 0) (hs : d.name.size ≤ 140737488351232) :
    Calls Tryz.prog 32 #[.pointer (some ⟨gh, 0, none⟩), .agg (cDeed d Ad cd)] w fun e w' => e = .returned (.tuple #[.string ⟨#[]⟩, .int .i64 1]) ∧ HouseTo own w gh Q ((Q.map (·.2)).set k Q[k].2) w' := by
  have hba : Below w.heap.size w (w.alloc (Obj.cells (cDeed d Ad cd) 70)) := (Below.refl _ _).alloc (Nat.le_refl _) _
  have hbd := Blk.new w 70 (cDeed d Ad cd)
  have N := Lib.hid (name_any d.name hs)
  rw [hn] at N
  have b0 := hbd.cell 0
  have b2 := hbd.cell 2
  have HH := Lib.hid h
  unfold cDeed at b0 b2
  have qa : decide (d.kind < 1) = false := decide_eq_false (by omega)
  have qb : decide (10 < d.kind) = false := decide_eq_false (by omega)
  have q1 : (d.kind == 1) = false := by rw [hk]; rfl
  have q2 : (d.kind == 2) = false := by rw [hk]; rfl
  have q10 : (d.kind == 10) = false := by rw [hk]; rfl
  have q3 : (d.kind == 3) = false := by rw [hk]; rfl
  have q4 : (d.kind == 4) = false := by rw [hk]; rfl
  have q5 : (d.kind == 5) = false := by rw [hk]; rfl
  have q6 : (d.kind == 6) = false := by rw [hk]; rfl
  have q7 : (d.kind == 7) = true := by rw [hk]; rfl
  have q8 : (d.kind == 8) = false := by rw [hk]; rfl
  have Hp := Lib.hid hp
  clear h hk hn hp
  go_enter Tryz.func32, Tryz.ntmps32
  unfold cDeed at hba hbd ⊢
  go_wp2_with fail
  refine (N.out _).mono ?_
  rintro e w1 ⟨rfl, hb1⟩
  have hbd1 := hbd.after hb1
  have hb1 := chain hb1 hba
  have hh1 := HH.out.apart (Goes.of_below (own := own) (S := fun _ => False) hb1) (fun _ _ h => h)
  obtain ⟨⟨A, n, c, hB, hrow, hQl, _⟩, how, hpg, hids⟩ := hh1
  have d0 := hB.cell 0
  have e0 := hbd1.cell 0
  have I := Lib.hid (indexPage w.heap.size d Ad cd A n c w1.heap.size Q hQl (by omega) w1 hrow.toReads (Nat.le_refl _) hbd1)
  rw [Hp.out] at I
  clear hbd N b0 b2 hba
  go_wp2_with fail
  refine I.out.mono ?_
  rintro e w2 ⟨rfl, hb2⟩
  have hbd2 := hbd1.after hb2
  obtain ⟨g, o, rfl, _⟩ := hrow.shape (by omega)
  obtain ⟨hog, hgl, hra⟩ := row_page (k := k) hpg hids hrow hQl (by omega)
  have hra2 := hra.after hb2
  have hh2 := HH.out.apart (Goes.of_below (own := own) (S := fun _ => False) (chain hb2 hb1)) (fun _ _ h => h)
  have hpg2 : ∀ y ∈ Q, PageAt own w2 y.1 y.2 := hh2.page
  have hlt2 := hh2.lt
  have hB2 := hB.after hb2
  have g0 := hB2.cell 0
  have c0 := hbd2.cell 0
  have c1 : w2.cell? ⟨w.heap.size, 1, none⟩ = some (.int .i64 d.n) := hbd2.cell 1
  have hkn : k < n := by omega
  have hrow2 : OwnK 66 3 w2 (fun k => k < w2.heap.size ∧ own k ≠ gh) (some ⟨g, o, none⟩) n c (Q.flatMap cPage) := by
    refine (hrow.after hb2).weak fun b hq hh => ?_
    have := hrow.lt b hq
    exact this.1 ⟨this.2, hh.2⟩
  have hb2 := chain hb2 hb1
  have hP := hpg2 _ (List.getElem_mem (l := Q) (n := k) hkl)
  have p2 := hra2.c2
  have Hra := Lib.hid hra2
  have Hlt2 := Lib.hid hlt2
  have Hpg := Lib.hid hpg2
  have Hog := Lib.hid hog
  have hgh : gh < w2.heap.size := hB2.lt
  have hgl2 := hP.leaf.at_.lt
  have hglw : Q[k].1.gl < w.heap.size ∧ Q[k].1.g < w.heap.size := (HH.out.page _ (List.getElem_mem (l := Q) (n := k) hkl)).leaf.at_.lt
  have C := fun W (hb : Below w2.heap.size w2 W) => (pcrash_no own W Q[k].1 Q[k].2 d.n hdn (hP.apart (Goes.of_below (own := own) (S := fun _ => False) hb) (fun h => h) (fun h => h)) hcr).mono fun e w' h =>
    (show e = .returned (.int .i64 1) ∧ LeafIn own w' Q[k].1.gl Q[k].1.g Q[k].2.t Q[k].2.H Q[k].2.j ∧ Goes own own (· = Q[k].1.gl) W w' ∧ w'.cell? ⟨g, o + k * 3 + 2, none⟩ = some (.pointer (some ⟨Q[k].1.gl, 0, none⟩)) ∧ w'.cell? ⟨w.heap.size, 1, none⟩ = some (.int .i64 d.n) from by
      have b1 := (h.2.2.2.block g (Nat.lt_of_lt_of_le hra2.lt hb.size) (fun e => hra2.ne2 (by rw [e]; exact hP.leaf.ol)) (fun e => hra2.ne2 (by rw [e]; exact hP.leaf.og))).trans (hb.block g hra2.lt)
      have b2 := (h.2.2.2.block w.heap.size (Nat.lt_of_lt_of_le hbd2.lt hb.size) (fun e => by omega) (fun e => by omega)).trans (hb.block w.heap.size hbd2.lt)
      exact ⟨h.1, h.2.1, h.2.2.1, by rw [← p2]; simp only [World.cell?, b1], by rw [← c1]; simp only [World.cell?, b2]⟩)
  have E := Lib.hid C
  clear I hbd1 d0 e0 HH hbd2 hB hrow hpg hra hh2 C hcr hlt2 hpg2 hra2 hog hgl2 hglw
  go_wp2
  have hbw := Below.refl w2.heap.size w2
  go_region_held3 (fun w' => w'.cell? ⟨g, o + k * 3 + 2, none⟩ = some (.pointer (some ⟨Q[k].1.gl, 0, none⟩)) ∧ w'.cell? ⟨w.heap.size, 1, none⟩ = some (.int .i64 d.n)) (first | exact ⟨p2, c1⟩ | exact ⟨by assumption, by assumption⟩)
    (first | (go_at_call 61; refine (E.out _ (first_drew hbw)).mono ?_; rintro e w3 ⟨rfl, hlf3, hg3, k1, k2⟩))
  have hg3 := (Goes.of_below (own := own) (S := (· = Q[k].1.gl)) (first_drew hbw)).trans hg3
  have hp3 : PageAt own w3 Q[k].1 Q[k].2 := ⟨hP.ed.apart hg3 hP.ne, hlf3, hP.ne, hP.ok⟩
  have HT := Lib.hid (house_put (p' := Q[k].2) hB2 hrow2 hQl how Hpg.out hids Hlt2.out hkl rfl (PageTo.stay hp3 (hg3.wide fun k hk => .inr hk)))
  clear E
  go_wp2
  go_ret2
  exact ⟨rfl, HT.out.before hb2⟩

set_option maxHeartbeats 1000000 in
theorem do_crash_ok (own : Nat → Nat) (w : World) (gh : Nat) (Q : List (Pl × Pg)) (h : HouseAt own w gh Q) (hQ : Q.length ≤ 6) (d : Dd) (Ad : Option Addr) (cd : Nat) (hk : d.kind = 7) (hdn : -9223372036854775808 ≤ d.n ∧ d.n ≤ 9223372036854775807) (k : Nat) (hkl : k < Q.length) (hcr : ¬ crashNo Q[k].2 d.n) (hp : placeN d.name (Q.map (·.2)) 0 = (k : Int)) (hn : nameE d.name = 0) (hs : d.name.size ≤ 140737488351232) :
    Calls Tryz.prog 32 #[.pointer (some ⟨gh, 0, none⟩), .agg (cDeed d Ad cd)] w fun e w' => e = .returned (.tuple #[.string ⟨#[]⟩, .int .i64 0]) ∧ HouseTo own w gh Q ((Q.map (·.2)).set k (fallP Q[k].2 (crashI Q[k].2 d.n))) w' := by
  have hba : Below w.heap.size w (w.alloc (Obj.cells (cDeed d Ad cd) 70)) := (Below.refl _ _).alloc (Nat.le_refl _) _
  have hbd := Blk.new w 70 (cDeed d Ad cd)
  have N := Lib.hid (name_any d.name hs)
  rw [hn] at N
  have b0 := hbd.cell 0
  have b2 := hbd.cell 2
  have HH := Lib.hid h
  unfold cDeed at b0 b2
  have qa : decide (d.kind < 1) = false := decide_eq_false (by omega)
  have qb : decide (10 < d.kind) = false := decide_eq_false (by omega)
  have q1 : (d.kind == 1) = false := by rw [hk]; rfl
  have q2 : (d.kind == 2) = false := by rw [hk]; rfl
  have q10 : (d.kind == 10) = false := by rw [hk]; rfl
  have q3 : (d.kind == 3) = false := by rw [hk]; rfl
  have q4 : (d.kind == 4) = false := by rw [hk]; rfl
  have q5 : (d.kind == 5) = false := by rw [hk]; rfl
  have q6 : (d.kind == 6) = false := by rw [hk]; rfl
  have q7 : (d.kind == 7) = true := by rw [hk]; rfl
  have q8 : (d.kind == 8) = false := by rw [hk]; rfl
  have Hp := Lib.hid hp
  clear h hk hn hp
  go_enter Tryz.func32, Tryz.ntmps32
  unfold cDeed at hba hbd ⊢
  go_wp2_with fail
  refine (N.out _).mono ?_
  rintro e w1 ⟨rfl, hb1⟩
  have hbd1 := hbd.after hb1
  have hb1 := chain hb1 hba
  have hh1 := HH.out.apart (Goes.of_below (own := own) (S := fun _ => False) hb1) (fun _ _ h => h)
  obtain ⟨⟨A, n, c, hB, hrow, hQl, _⟩, how, hpg, hids⟩ := hh1
  have d0 := hB.cell 0
  have e0 := hbd1.cell 0
  have I := Lib.hid (indexPage w.heap.size d Ad cd A n c w1.heap.size Q hQl (by omega) w1 hrow.toReads (Nat.le_refl _) hbd1)
  rw [Hp.out] at I
  clear hbd N b0 b2 hba
  go_wp2_with fail
  refine I.out.mono ?_
  rintro e w2 ⟨rfl, hb2⟩
  have hbd2 := hbd1.after hb2
  obtain ⟨g, o, rfl, _⟩ := hrow.shape (by omega)
  obtain ⟨hog, hgl, hra⟩ := row_page (k := k) hpg hids hrow hQl (by omega)
  have hra2 := hra.after hb2
  have hh2 := HH.out.apart (Goes.of_below (own := own) (S := fun _ => False) (chain hb2 hb1)) (fun _ _ h => h)
  have hpg2 : ∀ y ∈ Q, PageAt own w2 y.1 y.2 := hh2.page
  have hlt2 := hh2.lt
  have hB2 := hB.after hb2
  have g0 := hB2.cell 0
  have c0 := hbd2.cell 0
  have c1 : w2.cell? ⟨w.heap.size, 1, none⟩ = some (.int .i64 d.n) := hbd2.cell 1
  have hkn : k < n := by omega
  have hrow2 : OwnK 66 3 w2 (fun k => k < w2.heap.size ∧ own k ≠ gh) (some ⟨g, o, none⟩) n c (Q.flatMap cPage) := by
    refine (hrow.after hb2).weak fun b hq hh => ?_
    have := hrow.lt b hq
    exact this.1 ⟨this.2, hh.2⟩
  have hb2 := chain hb2 hb1
  have hP := hpg2 _ (List.getElem_mem (l := Q) (n := k) hkl)
  have p2 := hra2.c2
  have Hra := Lib.hid hra2
  have Hlt2 := Lib.hid hlt2
  have Hpg := Lib.hid hpg2
  have Hog := Lib.hid hog
  have hgh : gh < w2.heap.size := hB2.lt
  have hgl2 := hP.leaf.at_.lt
  have hglw : Q[k].1.gl < w.heap.size ∧ Q[k].1.g < w.heap.size := (HH.out.page _ (List.getElem_mem (l := Q) (n := k) hkl)).leaf.at_.lt
  have C := fun W (hb : Below w2.heap.size w2 W) => (pcrash_yes own W Q[k].1 Q[k].2 d.n hdn (hP.apart (Goes.of_below (own := own) (S := fun _ => False) hb) (fun h => h) (fun h => h)) hcr).mono fun e w' h =>
    (show e = .returned (.int .i64 0) ∧ LeafIn own w' Q[k].1.gl Q[k].1.g (endT ⟨#[]⟩ (Q[k].2.H.take (crashI Q[k].2 d.n))) (Q[k].2.H.take (crashI Q[k].2 d.n)) (crashI Q[k].2 d.n) ∧ Goes own own (· = Q[k].1.gl) W w' ∧ w'.cell? ⟨g, o + k * 3 + 2, none⟩ = some (.pointer (some ⟨Q[k].1.gl, 0, none⟩)) ∧ w'.cell? ⟨w.heap.size, 1, none⟩ = some (.int .i64 d.n) from by
      have b1 := (h.2.2.2.block g (Nat.lt_of_lt_of_le hra2.lt hb.size) (fun e => hra2.ne2 (by rw [e]; exact hP.leaf.ol)) (fun e => hra2.ne2 (by rw [e]; exact hP.leaf.og))).trans (hb.block g hra2.lt)
      have b2 := (h.2.2.2.block w.heap.size (Nat.lt_of_lt_of_le hbd2.lt hb.size) (fun e => by omega) (fun e => by omega)).trans (hb.block w.heap.size hbd2.lt)
      exact ⟨h.1, h.2.1, h.2.2.1, by rw [← p2]; simp only [World.cell?, b1], by rw [← c1]; simp only [World.cell?, b2]⟩)
  have E := Lib.hid C
  clear I hbd1 d0 e0 HH hbd2 hB hrow hpg hra hh2 C hcr hlt2 hpg2 hra2 hog hgl2 hglw
  go_wp2
  have hbw := Below.refl w2.heap.size w2
  go_region_held3 (fun w' => w'.cell? ⟨g, o + k * 3 + 2, none⟩ = some (.pointer (some ⟨Q[k].1.gl, 0, none⟩)) ∧ w'.cell? ⟨w.heap.size, 1, none⟩ = some (.int .i64 d.n)) (first | exact ⟨p2, c1⟩ | exact ⟨by assumption, by assumption⟩)
    (first | (go_at_call 61; refine (E.out _ (first_drew hbw)).mono ?_; rintro e w3 ⟨rfl, hlf3, hg3, k1, k2⟩))
  have hg3 := (Goes.of_below (own := own) (S := (· = Q[k].1.gl)) (first_drew hbw)).trans hg3
  have hr3 := Hra.out.apart hg3 Hra.out.ne2
  have p2' := hr3.c2
  have T := Lib.hid (leafText Q[k].1.gl Q[k].1.g _ _ _ w3 hlf3.at_)
  clear E p2
  go_wp2_with fail
  refine T.out.mono ?_
  rintro e w4 ⟨rfl, rfl⟩
  have N := Lib.hid (newE_ok _ hlf3.at_.tsize (fun k => k < w3.heap.size) w3 (fun k hk => hk))
  go_wp2_with fail
  refine N.out.mono ?_
  rintro e w5 ⟨rfl, hed, hb, hsz⟩
  have hr5 := hr3.after hb
  have d1 := hr5.c1
  have f1 := hr5.f1
  have HT := Lib.hid (house_put (p' := fallP Q[k].2 (crashI Q[k].2 d.n)) hB2 hrow2 hQl how Hpg.out hids Hlt2.out hkl rfl (fresh_ed (x := Q[k].1) (x1 := Q[k].1) (p := fallP Q[k].2 (crashI Q[k].2 d.n)) rfl Hra.out.lt (by rw [Hog.out]; exact hgh) Hra.out.ne2 (hg3.wide fun k hk => .inr hk) hlf3 rfl rfl hed hb))
  clear N T p2' hr3 hr5
  go_wp2
  go_ret2
  exact ⟨rfl, HT.out.before hb2⟩

theorem do_crash (own : Nat → Nat) (w : World) (gh : Nat) (Q : List (Pl × Pg)) (h : HouseAt own w gh Q) (hQ : Q.length ≤ 6) (d : Dd) (Ad : Option Addr) (cd : Nat) (hk : d.kind = 7) (hdn : -9223372036854775808 ≤ d.n ∧ d.n ≤ 9223372036854775807) (k : Nat) (hkl : k < Q.length) (hp : placeN d.name (Q.map (·.2)) 0 = (k : Int)) (hn : nameE d.name = 0) (hs : d.name.size ≤ 140737488351232) :
    Calls Tryz.prog 32 #[.pointer (some ⟨gh, 0, none⟩), .agg (cDeed d Ad cd)] w fun e w' => e = .returned (.tuple #[.string ⟨#[]⟩, .int .i64 (crashP Q[k].2 d.n).1]) ∧ HouseTo own w gh Q ((Q.map (·.2)).set k (crashP Q[k].2 d.n).2) w' := by
  by_cases hcr : crashNo Q[k].2 d.n
  · have e : crashP Q[k].2 d.n = (1, Q[k].2) := by unfold crashP; exact if_pos hcr
    rw [e]
    exact do_crash_no own w gh Q h hQ d Ad cd hk hdn k hkl hcr hp hn hs
  · have e : crashP Q[k].2 d.n = (0, fallP Q[k].2 (crashI Q[k].2 d.n)) := by unfold crashP; exact if_neg hcr
    rw [e]
    exact do_crash_ok own w gh Q h hQ d Ad cd hk hdn k hkl hcr hp hn hs
end Go.Proofs.YtaogegpfapfchaaGreatDoor

