import Derived.Test.YtaogegpfapfchaaGreatDoorDeskM20
import Derived.Deep.RegionLaw
import Derived.Deep.RegionHeldLaw
import Derived.BigRegion
import Derived.Test.YtaogegpfapfchaaGreatDoorDeskM19
/- Several texts in one: XHouseFind XHouseBegin XClearK XHouseDelete XHouseNew. -/
/- The walk of slices.IndexFunc over pages, by a name. -/
namespace Go.Proofs.YtaogegpfapfchaaGreatDoor
open Go.RowKit
set_option linter.unusedVariables false

/-- A deed's cells. -/
def cDeed (d : Dd) (A : Option Addr) (c : Nat) : Array Value := #[.int .i64 d.kind, .int .i64 d.n, .string d.name, .string d.text, .slice A d.edits.length c]

set_option maxHeartbeats 1000000 in
theorem pageIs (y : Pl × Pg) (gd : Nat) (d : Dd) (A : Option Addr) (c : Nat) (w : World) (hb : Blk w gd 70 (cDeed d A c)) :
    Calls Tryz.prog 53 #[.agg #[.string y.2.name, .pointer (some ⟨y.1.ge, 0, none⟩), .pointer (some ⟨y.1.gl, 0, none⟩)], .pointer (some ⟨gd, 0, none⟩)] w fun e w' => e = .returned (.bool (decide (y.2.name = d.name))) ∧ Below w.heap.size w w' := by
  have b2 : (w.alloc (Obj.cells #[.string y.2.name, .pointer (some ⟨y.1.ge, 0, none⟩), .pointer (some ⟨y.1.gl, 0, none⟩)] 66)).cell? ⟨gd, 2, none⟩ = some (.string d.name) := (hb.alloc _).cell 2
  have c0 : (w.alloc (Obj.cells #[.string y.2.name, .pointer (some ⟨y.1.ge, 0, none⟩), .pointer (some ⟨y.1.gl, 0, none⟩)] 66)).cell? ⟨w.heap.size, 0, none⟩ = some (.string y.2.name) := (Blk.new w _ _).cell 0
  have hba : Below w.heap.size w (w.alloc (Obj.cells #[.string y.2.name, .pointer (some ⟨y.1.ge, 0, none⟩), .pointer (some ⟨y.1.gl, 0, none⟩)] 66)) := (Below.refl _ _).alloc (Nat.le_refl _) _
  have hq : (y.2.name.toList == d.name.toList) = decide (y.2.name = d.name) := by
    by_cases h : y.2.name = d.name
    · rw [h]; simp
    · rw [decide_eq_false h, beq_eq_false_iff_ne]
      intro e
      rw [ByteArray.toList_eq, ByteArray.toList_eq] at e
      exact h (ba_ext e)
  clear hb
  go_enter Tryz.func53, Tryz.ntmps53
  go_wp2
  first
    | go_quiet (fail)
      go_wp2
    | skip
  go_ret
  exact ⟨by first | rfl | (rw [← hq]; rfl), ⟨hba.os, hba.tape, hba.output, hba.size, hba.block⟩⟩

theorem pages_map_drop (Q : List (Pl × Pg)) (k : Nat) (d : Pl × Pg) (h : k < Q.length) : (Q.map (·.2)).drop k = (Q.getD k d).2 :: (Q.map (·.2)).drop (k + 1) := by
  rw [List.drop_eq_getElem_cons (by simpa using h), List.getElem_map, getD_some _ _ _ h]
def y0 : Pl × Pg := (⟨0, 0, 0⟩, pg0)

set_option maxHeartbeats 1000000 in
theorem indexPage (gd : Nat) (d : Dd) (Ad : Option Addr) (cd : Nat) (A : Option Addr) (n c B : Nat) (Q : List (Pl × Pg)) (hl : Q.length = n) (hn : n ≤ 1000000000000000) (w : World) (r : Reads w B A n 3 (Q.flatMap cPage)) (hB : B ≤ w.heap.size) (hd : Blk w gd 70 (cDeed d Ad cd)) :
    Calls Tryz.prog 52 #[.slice A n c, .func (Fn.func 53) #[] #[.pointer (some ⟨gd, 0, none⟩)]] w
      fun e w' => e = .returned (.int .i64 (placeN d.name (Q.map (·.2)) 0)) ∧ Below w.heap.size w w' := by
  have Hl := Lib.hid hl
  have hen := enters_of Tryz.func53 (by kernel_rfl) rfl
  clear hl
  go_enter Tryz.func52, Tryz.ntmps52
  go_wp2
  go_loopw [5, 8] (fun _ i wr => ∃ k : Nat, k ≤ n ∧ i = .int .i64 k ∧ Hid (placeN d.name (Q.map (·.2)) 0 = placeN d.name ((Q.map (·.2)).drop k) k) ∧ Below w.heap.size w wr) (fun _ i _ => n - (intOf i).toNat)
  case atStart => exact ⟨0, Nat.zero_le _, rfl, Lib.hid (by simp), Below.refl _ _⟩
  case round =>
    obtain ⟨k, hk, rfl, Hf, hbr⟩ := hrel
    by_cases hlt : k < n
    · obtain ⟨b, o, rfl, hbB, hc⟩ := (r.below (hbr.mono hB)).2 (by omega)
      have c0 := hc (k * 3 + 0) (by rw [flat_length cPage 3 cPage_len, Hl.out]; omega)
      have c1 := hc (k * 3 + 1) (by rw [flat_length cPage 3 cPage_len, Hl.out]; omega)
      have c2 := hc (k * 3 + 2) (by rw [flat_length cPage 3 cPage_len, Hl.out]; omega)
      rw [flat_getD cPage 3 cPage_len y0 Q k _ (by rw [Hl.out]; omega) (by omega)] at c0 c1 c2
      simp only [cPage, List.getD_cons_zero, List.getD_cons_succ, Nat.add_zero, ← Nat.add_assoc] at c0 c1 c2
      have Hd := Lib.hid (pages_map_drop Q k y0 (by rw [Hl.out]; exact hlt))
      have Hcall := Lib.hid (pageIs (Q.getD k y0) gd d Ad cd wr (hd.after hbr))
      clear hc
      generalize Q.getD k y0 = y at *
      by_cases h0 : y.2.name = d.name
      · have hcl := Hcall.out
        rw [decide_eq_true h0] at hcl
        have Hcl := Lib.hid hcl
        have H0 := Lib.hid h0
        clear h0 hcl
        go_wp2_with fail
        refine Hcl.out.mono ?_
        rintro e w1 ⟨rfl, hb1⟩
        go_wp2
        go_ret
        exact ⟨by rw [Hf.out, Hd.out, placeN, if_pos H0.out]; rfl, chain hb1 hbr⟩
      · have hcl := Hcall.out
        rw [decide_eq_false h0] at hcl
        have Hcl := Lib.hid hcl
        have H0 := Lib.hid h0
        clear h0 hcl
        go_wp2_with fail
        refine Hcl.out.mono ?_
        rintro e w1 ⟨rfl, hb1⟩
        go_wp2
        go_roundw
        case rel => exact ⟨k + 1, by omega, by go_num, Lib.hid (by rw [Hf.out, Hd.out, placeN, if_neg H0.out]), chain hb1 hbr⟩
        case measure => simp only [intOf]; omega
    · obtain rfl : k = n := by omega
      go_wp2
      go_ret
      exact ⟨by rw [Hf.out, List.drop_of_length_le (by simp [Hl.out])]; rfl, hbr⟩
end Go.Proofs.YtaogegpfapfchaaGreatDoor

/- The walk of a house's begin. -/
namespace Go.Proofs.YtaogegpfapfchaaGreatDoor
open Go.RowKit
set_option linter.unusedVariables false

theorem infoPage : (Tryz.prog.info? 66).map (fun i => (i.zero, i.size, i.bytes)) = some (some (.agg #[.string ⟨#[]⟩, .pointer none, .pointer none]), 3, 32) := by kernel_rfl
theorem HouseAt.lt {own : Nat → Nat} {w : World} {gh : Nat} {Q : List (Pl × Pg)} (h : HouseAt own w gh Q) : ∀ i ∈ idsH gh Q, i < w.heap.size := fun i hi => by
  obtain ⟨⟨A, n, c, h1, _⟩, _, h5, _⟩ := h
  rcases List.mem_cons.1 hi with rfl | hi
  · exact h1.lt
  · obtain ⟨y, hy, hm⟩ := List.mem_flatMap.1 hi
    have hp := h5 y hy
    rcases List.mem_cons.1 hm with rfl | hm
    · exact hp.ed.lt
    · rcases List.mem_cons.1 hm with rfl | hm
      · exact hp.leaf.at_.lt.1
      · cases hm
/-- What begin answers and leaves. -/
def beginE (k : Int) (P : List Pg) (d : Dd) : Int := if 0 ≤ k then 10 else if P.length = 6 then 11 else if 200 < d.text.size then 2 else 0
def beginP (k : Int) (P : List Pg) (d : Dd) : List Pg := if beginE k P d = 0 then P ++ [newP d.name d.text] else P
/-- The house's part of a deed's post. -/
def HouseTo (own : Nat → Nat) (w : World) (gh : Nat) (Q : List (Pl × Pg)) (P' : List Pg) (w' : World) : Prop :=
  ∃ own' Q', HouseAt own' w' gh Q' ∧ Q'.map (·.2) = P' ∧ Goes own own' (fun k => k ∈ idsH gh Q) w w' ∧ ∀ i ∈ idsH gh Q', i ∈ idsH gh Q ∨ w.heap.size ≤ i
theorem HouseTo.stay {own : Nat → Nat} {w w' : World} {gh : Nat} {Q : List (Pl × Pg)} (h : HouseAt own w gh Q) (hb : Below w.heap.size w w') : HouseTo own w gh Q (Q.map (·.2)) w' :=
  ⟨own, Q, h.apart (Goes.of_below (S := fun _ => False) hb) (fun _ _ h => h), rfl, Goes.of_below hb, fun i hi => .inl hi⟩

theorem cell_grown {w3 w4 : World} {row : Option Nat} {g : Nat} (hg : w3.grownBy w4 row) (hlt : g < w3.heap.size) (hne : row ≠ some g) (i : Nat) : w4.cell? ⟨g, i, none⟩ = w3.cell? ⟨g, i, none⟩ := by
  have := hg.block g hlt (fun e => hne e.symm)
  simp only [World.cell?, this]
theorem frozen_grown {w3 w4 : World} {row : Option Nat} {g : Nat} (hg : w3.grownBy w4 row) (hlt : g < w3.heap.size) (hne : row ≠ some g) (i : Nat) : w4.frozen? ⟨g, i, none⟩ = w3.frozen? ⟨g, i, none⟩ := by
  have := hg.block g hlt (fun e => hne e.symm)
  simp only [World.frozen?, this]
theorem page_cells (w : World) (a : ByteArray) (b c : Nat) : ∀ x, x < 3 → (w.alloc (Obj.cells #[.string a, .pointer (some ⟨b, 0, none⟩), .pointer (some ⟨c, 0, none⟩)] 66)).cell? ((⟨w.heap.size, 0, none⟩ : Addr).add x) = ([.string a, .pointer (some ⟨b, 0, none⟩), .pointer (some ⟨c, 0, none⟩)] : List Value)[x]? := fun x hx => by
  have hB := Blk.new w 66 #[.string a, .pointer (some ⟨b, 0, none⟩), .pointer (some ⟨c, 0, none⟩)]
  rw [add_at, Nat.zero_add, hB.cell, ← Array.getElem?_toList]

theorem ids_ne {gh : Nat} {Q : List (Pl × Pg)} (h : (idsH gh Q).Nodup) {y : Pl × Pg} (hy : y ∈ Q) : y.1.ge ≠ gh ∧ y.1.gl ≠ gh := by
  unfold idsH at h
  have h1 := (List.nodup_cons.1 h).1
  exact ⟨fun e => h1 (List.mem_flatMap.2 ⟨y, hy, by rw [← e]; simp⟩), fun e => h1 (List.mem_flatMap.2 ⟨y, hy, by rw [← e]; simp⟩)⟩
/-- A new page is put behind the others. -/
theorem fresh_page {own own2 : Nat → Nat} {w w2 w3 w4 : World} {gh ge gl g n c2 c3 : Nat} {A2 A3 : Option Addr} {Q : List (Pl × Pg)} {name t : ByteArray} (hlt : ∀ i ∈ idsH gh Q, i < w.heap.size)
    (hG : Goes own own2 (fun k => k ∈ idsH gh Q) w w2) (hB : Blk w2 gh 42 #[.slice A2 n c2]) (hrow : OwnK 66 3 w2 (fun k => k < w2.heap.size ∧ own2 k ≠ gh) A2 n c2 (Q.flatMap cPage)) (hQ : Q.length = n) (how : own2 gh = gh)
    (hpg : ∀ y ∈ Q, PageAt own2 w2 y.1 y.2) (hids : (idsH gh Q).Nodup) (hed : EdIn own2 w2 ge t [] []) (hlf : LeafIn own2 w2 gl g t [(98 :: t.data.toList, t)] 1) (ht : t.size ≤ 200) (h1 : w.heap.size ≤ ge) (h2 : w.heap.size ≤ gl) (h12 : ge ≠ gl)
    (hb3 : Below w2.heap.size w2 w3) (hown : OwnK 66 3 w4 (fun k => k < w2.heap.size ∧ own2 k ≠ gh) A3 (n + 1) c3 (Q.flatMap cPage ++ [.string name, .pointer (some ⟨ge, 0, none⟩), .pointer (some ⟨gl, 0, none⟩)])) (hg4 : w3.grownBy w4 (Value.slice A2 n c2).ownBlock) :
    HouseTo own w gh Q (Q.map (·.2) ++ [newP name t]) (w4.setCell ⟨gh, 0, none⟩ (.slice A3 (n + 1) c3)) := by
  have hghw : gh < w.heap.size := hlt gh (List.mem_cons_self ..)
  have hne : (Value.slice A2 n c2).ownBlock ≠ some gh := hrow.ne_blk hB (by decide)
  have hB4 : Blk w4 gh 42 #[.slice A2 n c2] := (hB.after hb3).grown hg4 hne
  have hne3 : (Value.slice A3 (n + 1) c3).ownBlock ≠ some gh := hown.ne_blk hB4 (by decide)
  have hG5 : Goes own2 (updO own2 w2.heap.size gh) (· = gh) w2 (w4.setCell ⟨gh, 0, none⟩ (.slice A3 (n + 1) c3)) := by
    refine ⟨hg4.os.trans hb3.os, hg4.tape.trans hb3.tape, hg4.output.trans hb3.output, by rw [size_setCell]; exact Nat.le_trans hb3.size hg4.size, fun k hk hn => ?_, fun k hk => updO_lt own2 hk⟩
    have e1 := Below.heap_setCell w4 ⟨gh, 0, none⟩ (.slice A3 (n + 1) c3) k (fun e => hn (by rw [e]; exact how))
    have e2 := hg4.block k (Nat.lt_of_lt_of_le hk hb3.size) (fun e => (hrow.lt k e.symm).1 ⟨hk, hn⟩)
    exact e1.trans (e2.trans (hb3.block k hk))
  have hgh2 : gh < w2.heap.size := hB.lt
  refine ⟨updO own2 w2.heap.size gh, Q ++ [(⟨ge, gl, g⟩, newP name t)], ⟨⟨A3, n + 1, c3, hB4.set_ 0 _, ?_, by rw [List.length_append, hQ]; rfl, hne3⟩, by rw [updO_lt own2 hgh2]; exact how, fun y hy => ?_, ?_⟩, by rw [List.map_append]; rfl, hG.trans (hG5.wide fun k hk => by rw [hk]; exact List.mem_cons_self ..), fun i hi => ?_⟩
  · rw [List.flatMap_append]
    refine (hown.far hne3 0 _).weak fun k hk => ?_
    rintro ⟨_, hq⟩
    rcases Nat.lt_or_ge k w2.heap.size with h | h
    · exact (hown.lt k hk).1 ⟨h, by rwa [updO_lt own2 h] at hq⟩
    · exact hq (updO_ge own2 h)
  · rcases List.mem_append.1 hy with hy | hy
    · exact (hpg y hy).apart hG5 (ids_ne hids hy).1 (ids_ne hids hy).2
    · rw [List.mem_singleton.1 hy]
      exact ⟨hed.apart hG5 (fun e => by omega), hlf.apart hG5 (fun e => by omega), h12, newP_ok name ht⟩
  · have e : idsH gh (Q ++ [(⟨ge, gl, g⟩, newP name t)]) = idsH gh Q ++ [ge, gl] := by unfold idsH; rw [List.flatMap_append]; rfl
    rw [e]
    refine List.nodup_append.2 ⟨hids, by simp [h12], fun a ha b hb => ?_⟩
    have := hlt a ha
    simp only [List.mem_cons, List.not_mem_nil, or_false] at hb
    rcases hb with rfl | rfl <;> omega
  · have e : idsH gh (Q ++ [(⟨ge, gl, g⟩, newP name t)]) = idsH gh Q ++ [ge, gl] := by unfold idsH; rw [List.flatMap_append]; rfl
    rw [e] at hi
    rcases List.mem_append.1 hi with h | h
    · exact .inl h
    · simp only [List.mem_cons, List.not_mem_nil, or_false] at h
      rcases h with rfl | rfl
      · exact .inr h1
      · exact .inr h2

set_option maxHeartbeats 2000000 in
theorem begin_any (own : Nat → Nat) (w : World) (gh : Nat) (Q : List (Pl × Pg)) (h : HouseAt own w gh Q) (k : Int) (hk : -9223372036854775808 ≤ k ∧ k ≤ 9223372036854775807) (hQ : Q.length ≤ 6) (d : Dd) (Ad : Option Addr) (cd : Nat) :
    Calls Tryz.prog 54 #[.pointer (some ⟨gh, 0, none⟩), .int .i64 k, .agg (cDeed d Ad cd)] w fun e w' => e = .returned (.int .i64 (beginE k (Q.map (·.2)) d)) ∧ HouseTo own w gh Q (beginP k (Q.map (·.2)) d) w' := by
  have hba : Below w.heap.size w (w.alloc (Obj.cells (cDeed d Ad cd) 70)) := (Below.refl _ _).alloc (Nat.le_refl _) _
  have hbd := Blk.new w 70 (cDeed d Ad cd)
  have hlen : (Q.map (·.2)).length = Q.length := List.length_map ..
  have hag := h.apart (Goes.of_below (own := own) (S := fun _ => False) hba) (fun _ _ h => h)
  unfold cDeed at hba hbd hag ⊢
  by_cases hk0 : 0 ≤ k
  · have e1 : beginE k (Q.map (·.2)) d = 10 := by unfold beginE; rw [if_pos hk0]
    have e2 : beginP k (Q.map (·.2)) d = Q.map (·.2) := by unfold beginP; rw [if_neg (by rw [e1]; decide)]
    rw [e1, e2]
    have HS := Lib.hid (HouseTo.stay h hba)
    have q1 : decide (0 ≤ k) = true := decide_eq_true hk0
    clear e1 e2 hag hbd hba
    go_enter Tryz.func54, Tryz.ntmps54
    go_wp2
    go_ret
    exact ⟨rfl, HS.out⟩
  have q1 : decide (0 ≤ k) = false := decide_eq_false hk0
  obtain ⟨⟨A, n, c, hb1, hrow, hQl, hnb⟩, how, hpg, hids⟩ := hag
  have c0 := hb1.cell 0
  by_cases h6 : n = 6
  · have e1 : beginE k (Q.map (·.2)) d = 11 := by unfold beginE; rw [if_neg hk0, if_pos (by rw [hlen, hQl]; exact h6)]
    have e2 : beginP k (Q.map (·.2)) d = Q.map (·.2) := by unfold beginP; rw [if_neg (by rw [e1]; decide)]
    rw [e1, e2]
    have HS := Lib.hid (HouseTo.stay h hba)
    subst h6
    clear e1 e2 hbd hba hrow hQl hlen
    go_enter Tryz.func54, Tryz.ntmps54
    go_wp2
    go_ret
    exact ⟨rfl, HS.out⟩
  have q2 : ((n : Int) == 6) = false := by rw [beq_eq_false_iff_ne]; omega
  by_cases hz : 200 < d.text.size
  · have e1 : beginE k (Q.map (·.2)) d = 2 := by unfold beginE; rw [if_neg hk0, if_neg (by rw [hlen, hQl]; exact h6), if_pos hz]
    have e2 : beginP k (Q.map (·.2)) d = Q.map (·.2) := by unfold beginP; rw [if_neg (by rw [e1]; decide)]
    rw [e1, e2]
    have HS := Lib.hid (fun w' hb => HouseTo.stay (w' := w') h hb)
    have b3 := hbd.cell 3
    have N := Lib.hid (newE_no d.text hz)
    clear e1 e2 hbd hrow hQl hlen
    go_enter Tryz.func54, Tryz.ntmps54
    go_wp2_with fail
    refine (N.out _).mono ?_
    rintro e w1 ⟨rfl, rfl⟩
    go_wp2
    go_ret
    exact ⟨rfl, HS.out _ hba⟩
  have e1 : beginE k (Q.map (·.2)) d = 0 := by unfold beginE; rw [if_neg hk0, if_neg (by rw [hlen, hQl]; exact h6), if_neg hz]
  have e2 : beginP k (Q.map (·.2)) d = Q.map (·.2) ++ [newP d.name d.text] := by unfold beginP; rw [if_pos e1]
  rw [e1, e2]
  have hag : HouseAt own (w.alloc (Obj.cells #[.int .i64 d.kind, .int .i64 d.n, .string d.name, .string d.text, .slice Ad d.edits.length cd] 70)) gh Q := ⟨⟨A, n, c, hb1, hrow, hQl, hnb⟩, how, hpg, hids⟩
  have hlts := h.lt
  have Hlts := Lib.hid hlts
  have hwz : (w.alloc (Obj.cells #[.int .i64 d.kind, .int .i64 d.n, .string d.name, .string d.text, .slice Ad d.edits.length cd] 70)).heap.size = w.heap.size + 1 := by simp
  clear e1 e2 hlts hb1 hrow hnb hpg
  have b3 := hbd.cell 3
  have N := Lib.hid (newE_ok d.text (by omega) (fun k => k < w.heap.size + 1) (w.alloc (Obj.cells #[.int .i64 d.kind, .int .i64 d.n, .string d.name, .string d.text, .slice Ad d.edits.length cd] 70)) (fun k hk => by rw [hwz]; exact hk))
  go_enter Tryz.func54, Tryz.ntmps54
  go_wp2_with fail
  refine N.out.mono ?_
  rintro e w1 ⟨rfl, hed1, hb1, hsz1⟩
  rw [hwz] at hed1 hsz1
  have hbd1 := hbd.after hb1
  have b3' := hbd1.cell 3
  have b2' := hbd1.cell 2
  have hag1 := hag.apart (Goes.of_belowU (own := own) (S := fun _ => False) hb1 (w.heap.size + 1)) (fun _ _ h => h)
  rw [hwz] at hag1
  have hbw1 : Below w.heap.size w w1 := chain hb1 hba
  have L := Lib.hid (leafNew_ok d.text (by omega) w1)
  clear N b3 hag hba hbd c0
  go_wp2_with fail
  refine L.out.mono ?_
  rintro e w2 ⟨gl, g, rfl, hl2, hgl, hg2, hb2⟩
  have hed1 : EdIn (updO own (w.heap.size + 1) (w.heap.size + 1)) w1 (w.heap.size + 1) d.text [] [] := EdAt.weak hed1 fun k ⟨h1, h2⟩ => .inl (by
    rcases Nat.lt_or_ge k (w.heap.size + 1) with h | h
    · exact h
    · exact absurd (updO_ge own h) h2)
  have hG1 : Goes own (updO own (w.heap.size + 1) (w.heap.size + 1)) (fun k => k ∈ idsH gh Q) w w1 := ⟨hbw1.os, hbw1.tape, hbw1.output, hbw1.size, fun k hk _ => hbw1.block k hk, fun k hk => updO_lt own (by omega)⟩
  generalize updO own (w.heap.size + 1) (w.heap.size + 1) = own1 at *
  have hG2 : Goes own1 (updO own1 w1.heap.size gl) (fun _ => False) w1 w2 := Goes.of_belowU hb2 gl
  have hglw : w.heap.size ≤ gl := Nat.le_trans hbw1.size hgl
  have hgne : w.heap.size + 1 ≠ gl := by omega
  have hlf2 : LeafIn (updO own1 w1.heap.size gl) w2 gl g d.text [(98 :: d.text.data.toList, d.text)] 1 := ⟨hl2, updO_ge own1 hgl, updO_ge own1 hg2⟩
  have hed2 := hed1.apart hG2 (fun h => h)
  have hag2 := hag1.apart hG2 (fun _ _ h => h)
  have hG := hG1.trans (hG2.wide (fun _ h => h.elim))
  have hbd2 := hbd1.after hb2
  have b2 := hbd2.cell 2
  generalize updO own1 w1.heap.size gl = own2 at *
  obtain ⟨⟨A2, n2, c2, hB, hrow, hQ2, hnb2⟩, how2, hpg2, hids⟩ := hag2
  have d0 := hB.cell 0
  have f0 := hB.frozen 0
  obtain rfl : n2 = n := by rw [← hQ2, ← hQl]
  clear L hl2 hgl hg2 hed1 hag1 hG1 hG2 hbd1 hb2 b3' b2'
  have hbp : ∀ w' : World, (Instr.build 66 #[(0, .string d.name), (1, .pointer (some ⟨w.heap.size + 1, 0, none⟩)), (2, .pointer (some ⟨gl, 0, none⟩))]).run Tryz.prog w' = .ok (.agg #[.string d.name, .pointer (some ⟨w.heap.size + 1, 0, none⟩), .pointer (some ⟨gl, 0, none⟩)]) w' := fun w' => run_build w' 66 _ _ (by kernel_rfl)
  have hys : ∀ u ∈ [Value.string d.name, .pointer (some ⟨w.heap.size + 1, 0, none⟩), .pointer (some ⟨gl, 0, none⟩)], u.oneCell' = true := fun u hu => by
    simp only [List.mem_cons, List.not_mem_nil, or_false] at hu
    rcases hu with rfl | rfl | rfl <;> rfl
  have hyc := page_cells w2.drew d.name (w.heap.size + 1) gl
  have hne : (Value.slice A2 n2 c2).ownBlock ≠ some gh := hrow.ne_blk hB (by decide)
  have hneD : (Value.slice A2 n2 c2).ownBlock ≠ some w.heap.size := hrow.ne_blk hbd2 (by decide)
  have hbd3 := hbd2.alloc (Obj.cells #[.string d.name, .pointer (some ⟨w.heap.size + 1, 0, none⟩), .pointer (some ⟨gl, 0, none⟩)] 66)
  have hr3 := hrow.alloc (Obj.cells #[.string d.name, .pointer (some ⟨w.heap.size + 1, 0, none⟩), .pointer (some ⟨gl, 0, none⟩)] 66)
  have hB3 := hB.alloc (Obj.cells #[.string d.name, .pointer (some ⟨w.heap.size + 1, 0, none⟩), .pointer (some ⟨gl, 0, none⟩)] 66)
  go_wp2
  have hZ : Blk (w2.alloc (Obj.cells #[.string d.name, .pointer (some ⟨w.heap.size + 1, 0, none⟩), .pointer (some ⟨gl, 0, none⟩)] 66)).drew gh 42 #[.slice A2 n2 c2] := hB3
  have z0 := hZ.cell 0
  go_region_law ((refine step_append_K rfl (.tmp 38) (.tmp 44) 40 rfl (fun k => k < w2.heap.size ∧ own2 k ≠ gh) _ 32 infoPage Tryz.underlying40 rfl (by decide) (by decide) A2 n2 c2 _ (by simp [Act.eval]) hr3 ⟨w2.heap.size, 0, none⟩ 1 _ (by simp [Act.eval]) rfl hys hyc (by omega) (by omega) (fun k hk => by have := hk.1; simp; omega) ?_; intro A3 c3 w4 hown4 hg4 hp4; have y0 := (cell_grown hg4 hB3.lt hne 0).trans (hB3.cell 0); have yf := (frozen_grown hg4 hB3.lt hne 0).trans (hB3.frozen 0)))
  all_goals
    go_wp2
    go_ret
    exact ⟨rfl, fresh_page Hlts.out hG hB hrow hQ2 how2 hpg2 hids hed2 hlf2 (by omega) (by omega) hglw hgne ((Below.alloc (Below.refl _ _) (Nat.le_refl _) _).drew) hown4 hg4⟩
end Go.Proofs.YtaogegpfapfchaaGreatDoor

/- clear of the back part of a row of one's own. -/
namespace Go.Proofs.YtaogegpfapfchaaGreatDoor
open Go.RowKit
set_option linter.unusedVariables false

/-- clear of the back part of a row of one's own. -/
theorem run_clear_K {P : Program} {T : TypeId} {s : Nat} {K : Nat → Prop} (w : World) (t : TypeId) (z : Value) (ht : P.underlying t = some (.slice T)) (hv : ∀ w, (zeroValue T).run P w = .ok z w) (hz : z.cells.size = s) (h1 : ∀ j, j < s → (z.cells[j]!).oneCell' = true) (hs : 0 < s)
    (g o n c i : Nat) (xs : List Value) (h : OwnK T s w K (some ⟨g, o, none⟩) n c xs) (hi : i < n) :
    ∃ w', (∀ ty, (Builtin.clear_ #[t] ty #[.slice (some ⟨g, o + i * s, none⟩) (n - i) (c - i)]).run P w = .ok (.tuple #[]) w') ∧ OwnK T s w' K (some ⟨g, o, none⟩) i c (xs.take (i * s)) ∧ (∀ B w0, B ≤ g → Below B w0 w → Below B w0 w') ∧ w.grownBy w' (some g) := by
  obtain ⟨hlen, h2⟩ := h
  rcases h2 with ⟨h0, _⟩ | ⟨g', o', cur, hv', hb, hg, hnc, hcm, hcs, hx⟩
  · cases h0
  injection hv' with hv'
  injection hv' with e1 e2
  subst e1; subst e2
  obtain ⟨vs, hvs⟩ : ∃ vs, vs = (Builtin.zeroCells z.cells (n - i)).toList := ⟨_, rfl⟩
  have hvl : vs.length = (n - i) * s := by rw [hvs]; simp [Builtin.zeroCells, hz]
  have hle : i * s + (n - i) * s = n * s := by rw [← Nat.add_mul]; congr 1; omega
  have hle2 : n * s ≤ c * s := Nat.mul_le_mul_right _ hnc
  have hone : ∀ v ∈ vs, v.oneCell' = true := fun v hv => by
    rw [hvs] at hv
    simp only [Builtin.zeroCells, Array.toList_map, Array.toList_range, List.mem_map] at hv
    obtain ⟨k, hk, rfl⟩ := hv
    exact h1 _ (by rw [hz]; exact Nat.mod_lt _ hs)
  have hst := run_storeCells_T P g (o + i * s) T (0, 0) vs 0 cur w hg (fun i _ hh => by omega) (by rw [hvl]; omega) hone
  simp only [Nat.add_zero] at hst
  obtain ⟨m, hm⟩ : ∃ m, n - i = m + 1 := ⟨n - i - 1, by omega⟩
  have hrow := setRow_heap w g cur (cur.toList.take (o + i * s) ++ vs ++ cur.toList.drop (o + i * s + vs.length)).toArray T (0, 0) hg
  refine ⟨w.setRow g (cur.toList.take (o + i * s) ++ vs ++ cur.toList.drop (o + i * s + vs.length)).toArray, fun ty => ?_, ⟨by rw [List.length_take, hlen]; omega, .inr ⟨g, o, _, rfl, hb, hrow, by omega, hcm, ?_, ?_⟩⟩, fun B w0 hB hbw => ?_, ⟨rfl, rfl, rfl, by simp [World.setRow], fun k _ hk => setRow_other w g k _ (fun e => hk (by rw [e]))⟩⟩
  · rw [hm] at hvs ⊢
    simp only [Builtin.clear_, List.getElem?_toArray, List.length_cons, List.length_nil, Nat.zero_add, Nat.lt_add_one, getElem?_pos, List.getElem_cons_zero, Sem.run_bind, run_underlying ht, Result.andThen_ok, hv, ← hvs, hst, Sem.run_pure]
  · simp only [List.size_toArray, List.length_append, List.length_take, List.length_drop, Array.length_toList, hvl]
    omega
  · have hic : (cur.toList.take (o + i * s)).length = o + i * s := by rw [List.length_take, Array.length_toList]; omega
    rw [List.append_assoc, List.drop_append_of_le_length (by rw [hic]; omega), List.take_append_of_le_length (by rw [List.length_drop, hic]; omega), ← hx, List.take_take, Nat.min_eq_left (by omega), List.drop_take, List.take_take, show o + i * s - o = i * s by omega, Nat.min_self]
  · exact hbw.trans ⟨rfl, rfl, rfl, by simp, fun k hk => setRow_other w g k _ (by omega)⟩

end Go.Proofs.YtaogegpfapfchaaGreatDoor

/- The walk of slices.Delete over pages: one page out. -/
namespace Go.Proofs.YtaogegpfapfchaaGreatDoor
open Go.RowKit
set_option linter.unusedVariables false

/-- append of the back part of a row over the place of one of its elements. -/
theorem run_append_over {P : Program} {T : TypeId} {s : Nat} {K : Nat → Prop} (z : Value) (by_ : Nat) (w : World) (t : TypeId) (ht : P.underlying t = some (.slice T)) (hinfo : (P.info? T).map (fun i => (i.zero, i.size, i.bytes)) = some (some z, s, by_))
    (g o n c i c2 : Nat) (a2 : Addr) (ha2 : i + 1 < n → a2 = ⟨g, o + (i + 1) * s, none⟩) (xs : List Value) (h : OwnK T s w K (some ⟨g, o, none⟩) n c xs) (hi : i < n) (hone : ∀ u ∈ xs, u.oneCell' = true) :
    ∃ w', (∀ ty, (Builtin.append_ #[t, t] ty #[.slice (some ⟨g, o, none⟩) i c, .slice (some a2) (n - (i + 1)) c2]).run P w = .ok (.slice (some ⟨g, o, none⟩) (n - 1) c) w') ∧
      OwnK T s w' K (some ⟨g, o, none⟩) n c (xs.take (i * s) ++ xs.drop ((i + 1) * s) ++ xs.drop ((n - 1) * s)) ∧ w.grownBy w' (some g) := by
  obtain ⟨f, hf, hz, hs1, hby⟩ := info_parts hinfo
  obtain ⟨hlen, h2⟩ := h
  have hcell := fun j (hj : j < n * s) => (OwnK.cell (⟨hlen, h2⟩ : OwnK T s w K (some ⟨g, o, none⟩) n c xs) j hj).1
  rcases h2 with ⟨h0, _⟩ | ⟨g', o', cur, hv', hb, hg, hnc, hcm, hcs, hx⟩
  · cases h0
  injection hv' with hv'
  injection hv' with e1 e2
  subst e1; subst e2
  have e1 : (i + 1) * s + (n - (i + 1)) * s = n * s := by rw [← Nat.add_mul]; congr 1; omega
  have e2 : i * s + (n - (i + 1)) * s = (n - 1) * s := by rw [← Nat.add_mul]; congr 1; omega
  have e3 : (n - 1) * s + s = n * s := by rw [← Nat.succ_mul]; congr 1; omega
  have e4 : n * s ≤ c * s := Nat.mul_le_mul_right _ hnc
  have hdl : (xs.drop ((i + 1) * s)).length = (n - (i + 1)) * s := by rw [List.length_drop, hlen]; omega
  have hnews : ∀ j u, (xs.drop ((i + 1) * s))[j]? = some u → w.cell? (a2.add j) = some u := fun j u hj => by
    have hj' := (List.getElem?_eq_some_iff.1 hj).1
    rw [hdl] at hj'
    have hin : i + 1 < n := by
      rcases Nat.lt_or_ge (i + 1) n with h | h
      · exact h
      · rw [show n - (i + 1) = 0 by omega, Nat.zero_mul] at hj'; exact absurd hj' (Nat.not_lt_zero _)
    rw [ha2 hin, add_at, Nat.add_assoc, hcell _ (by omega), ← List.getElem?_drop]
    exact hj
  have hfc := run_firstCells_some (P := P) w s (n - (i + 1)) a2 (n - (i + 1)) c2 (xs.drop ((i + 1) * s)) hdl hnews
  have hst := run_storeCells_T P g (o + i * s) T (0, 0) (xs.drop ((i + 1) * s)) 0 cur w hg (fun i _ hh => by omega) (by rw [hdl]; omega) (fun v hv => hone v (List.mem_of_mem_drop hv))
  simp only [Nat.add_zero] at hst
  have hroom : n ≤ c + 1 := by omega
  have hsum : i + (n - (i + 1)) = n - 1 := by omega
  have hrow := setRow_heap w g cur (cur.toList.take (o + i * s) ++ xs.drop ((i + 1) * s) ++ cur.toList.drop (o + i * s + (xs.drop ((i + 1) * s)).length)).toArray T (0, 0) hg
  refine ⟨_, fun ty => ?_, ⟨?_, .inr ⟨g, o, _, rfl, hb, hrow, hnc, hcm, ?_, ?_⟩⟩, ⟨rfl, rfl, rfl, by simp [World.setRow], fun k _ hk => setRow_other w g k _ (fun e => hk (by rw [e]))⟩⟩
  · simp [Builtin.append_, run_underlying ht, sizeOf, typeInfo, hf, Builtin.lenOf, hroom, hfc, add_at, hs1, hst, hsum]
  · rw [List.length_append, List.length_append, List.length_take, hdl, List.length_drop, hlen]; omega
  · simp only [List.size_toArray, List.length_append, List.length_take, List.length_drop, Array.length_toList, hlen]; omega
  · have hlt : (cur.toList.take (o + i * s)).length = o + i * s := by rw [List.length_take, Array.length_toList]; omega
    rw [hdl, List.append_assoc, List.drop_append_of_le_length (by omega), List.drop_take, show o + i * s - o = i * s by omega, ← hx]
    have hl2 : ((cur.toList.drop o).take (i * s)).length = i * s := by rw [List.length_take, List.length_drop, Array.length_toList]; omega
    have hl3 : ((cur.toList.drop o).take (n * s)).length = n * s := by rw [hx]; exact hlen
    rw [List.take_take, Nat.min_eq_left (by omega), List.append_assoc]
    rw [List.take_append, hl2, List.take_of_length_le (by omega)]
    congr 1
    rw [List.take_append, List.length_drop, hl3, List.take_of_length_le (by rw [List.length_drop, hl3]; omega)]
    congr 1
    have e5 : (i + 1) * s = i * s + s := Nat.succ_mul ..
    rw [List.drop_take, List.drop_drop, show o + (n - 1) * s = o + i * s + (n - (i + 1)) * s by omega]
    congr 1
    omega
theorem zeroPage (w : World) : (zeroValue 66).run Tryz.prog w = .ok (.agg #[.string ⟨#[]⟩, .pointer none, .pointer none]) w := by
  obtain ⟨i, hi, hz, hs, hb⟩ := info_parts infoPage
  simp [zeroValue, typeInfo, hi, hz]
theorem pages_one (Q : List (Pl × Pg)) : ∀ u ∈ Q.flatMap cPage, u.oneCell' = true := fun u hu => by
  obtain ⟨y, _, hm⟩ := List.mem_flatMap.1 hu
  simp only [cPage, List.mem_cons, List.not_mem_nil, or_false] at hm
  rcases hm with rfl | rfl | rfl <;> rfl
theorem pages_take (Q : List (Pl × Pg)) (i : Nat) (h : i ≤ Q.length) : (Q.flatMap cPage).take (i * 3) = (Q.take i).flatMap cPage := by
  conv => lhs; rw [← List.take_append_drop i Q, List.flatMap_append]
  rw [List.take_append_of_le_length (by rw [flat_length cPage 3 cPage_len, List.length_take]; omega), List.take_of_length_le (by rw [flat_length cPage 3 cPage_len, List.length_take]; omega)]
theorem pages_drop (Q : List (Pl × Pg)) (i : Nat) (h : i ≤ Q.length) : (Q.flatMap cPage).drop (i * 3) = (Q.drop i).flatMap cPage := by
  conv => lhs; rw [← List.take_append_drop i Q, List.flatMap_append]
  rw [List.drop_append_of_le_length (by rw [flat_length cPage 3 cPage_len, List.length_take]; omega), List.drop_eq_nil_of_le (by rw [flat_length cPage 3 cPage_len, List.length_take]; omega), List.nil_append]

theorem erased_row (Q : List (Pl × Pg)) (i n : Nat) (hQ : Q.length = n) (hi : i < n) : ((Q.flatMap cPage).take (i * 3) ++ (Q.flatMap cPage).drop ((i + 1) * 3) ++ (Q.flatMap cPage).drop ((n - 1) * 3)).take ((n - 1) * 3) = (Q.eraseIdx i).flatMap cPage := by
  have hl : (Q.flatMap cPage).length = n * 3 := by rw [flat_length cPage 3 cPage_len, hQ]
  rw [List.take_append_of_le_length (by rw [List.length_append, List.length_take, List.length_drop, hl]; omega), List.take_of_length_le (by rw [List.length_append, List.length_take, List.length_drop, hl]; omega), pages_take Q i (by omega), pages_drop Q (i + 1) (by omega), List.eraseIdx_eq_take_drop_succ, List.flatMap_append]
theorem step_app_eq {P : Program} {w w' : World} {ops : Array Oper} {op : Oper} {a : Act} {Kq : Act → World → Prop} {Q : Exit → Act → World → Prop} {E : Prop} (hgd : op.guard = none) (s x : Operand) (t u : TypeId)
    (ho : op.op = .call { callee := .builtin .append, args := #[s, x], argTypes := #[t, u] }) (v1 v2 v : Value) (hs : a.eval s = v1) (hx : a.eval x = v2) (hr : (Builtin.append_ #[t, u] op.type #[v1, v2]).run P w = .ok v w')
    (h : Kq (a.put op.dst v) w') : if Region.wanted op (yielded ops a.tmps) = true then Oper.wp P op a w Kq Q else E := by
  rw [if_pos (by simp [Region.wanted, hgd])]
  unfold Oper.wp execOp
  simp only [ho, resolve, invoke, builtin, Sem.run_bind, Sem.run_pure, Result.andThen_ok, List.map_toArray, List.map_cons, List.map_nil, hs, hx, hr]
  exact h

set_option maxHeartbeats 1000000 in
theorem deletePage (K : Nat → Prop) (g o n c i : Nat) (Q : List (Pl × Pg)) (hQ : Q.length = n) (hi : i < n) (hn : n ≤ 1000000) (w : World) (h : OwnK 66 3 w K (some ⟨g, o, none⟩) n c (Q.flatMap cPage)) :
    Calls Tryz.prog 64 #[.slice (some ⟨g, o, none⟩) n c, .int .i64 i, .int .i64 ((i : Int) + 1)] w fun e w' => e = .returned (.slice (some ⟨g, o, none⟩) (n - 1) c) ∧ OwnK 66 3 w' K (some ⟨g, o, none⟩) (n - 1) c ((Q.eraseIdx i).flatMap cPage) ∧ w.grownBy w' (some g) := by
  have hcap := h.cap
  unfold maxLen at hcap
  obtain ⟨a2, ha2, hif⟩ : ∃ a2 : Addr, (i + 1 < n → a2 = ⟨g, o + (i + 1) * 3, none⟩) ∧ (if c = i + 1 then some (⟨g, o, none⟩ : Addr) else some ⟨g, o + (i + 1) * 3, none⟩) = some a2 := by
    by_cases hc : c = i + 1
    · exact ⟨⟨g, o, none⟩, fun h => by omega, by rw [if_pos hc]⟩
    · exact ⟨⟨g, o + (i + 1) * 3, none⟩, fun _ => rfl, by rw [if_neg hc]⟩
  obtain ⟨w1, hap, how1, hg1⟩ := run_append_over (s := 3) (.agg #[.string ⟨#[]⟩, .pointer none, .pointer none]) 32 w.drew 40 Tryz.underlying40 infoPage g o n c i (c - (i + 1)) a2 ha2 _ h.drew hi (pages_one Q)
  obtain ⟨w2, hcl, how2, -, hg2⟩ := run_clear_K (s := 3) w1 40 (.agg #[.string ⟨#[]⟩, .pointer none, .pointer none]) Tryz.underlying40 zeroPage rfl (fun j hj => by rcases j with _ | _ | _ | j <;> first | rfl | omega) (by decide) g o n c (n - 1) _ how1 (by omega)
  have hlast : n - (n - 1) = 1 := by omega
  rw [hlast] at hcl
  have hcc : (i : Int) + 1 ≤ (n : Int) := by omega
  have hic : i ≤ c := by omega
  have hi0 : (0 : Int) ≤ (i : Int) + 1 := by omega
  have hic2 : i + 1 ≤ n := by omega
  have hcn : ¬ c = n - 1 := by omega
  go_enter Tryz.func64, Tryz.ntmps64
  go_wp2
  go_region_law ((refine step_app_eq rfl (.tmp 22) (.tmp 25) 40 40 rfl _ _ _ rfl rfl (hap _) ?_))
  go_wp2
  go_ret
  exact ⟨rfl, by rw [← erased_row Q i n hQ hi]; exact how2, hg2.os.trans hg1.os, hg2.tape.trans hg1.tape, hg2.output.trans hg1.output, Nat.le_trans hg1.size hg2.size, fun k hk hn => (hg2.block k (Nat.lt_of_lt_of_le hk hg1.size) hn).trans (hg1.block k hk hn)⟩
end Go.Proofs.YtaogegpfapfchaaGreatDoor

/- The walk of house.New. -/
namespace Go.Proofs.YtaogegpfapfchaaGreatDoor
open Go.RowKit
set_option linter.unusedVariables false

theorem newHouse (own : Nat → Nat) (w : World) : Calls Tryz.prog 11 #[] w fun e w' => e = .returned (.pointer (some ⟨w.heap.size, 0, none⟩)) ∧ HouseAt (updO own w.heap.size w.heap.size) w' w.heap.size [] ∧ Below w.heap.size w w' := by
  have hbh : ∀ w' : World, (Instr.build 42 #[]).run Tryz.prog w' = .ok (.agg #[.slice none 0 0]) w' := fun w' => run_build w' 42 _ _ (by kernel_rfl)
  go_enter Tryz.func11, Tryz.ntmps11
  go_wp2
  go_ret
  exact ⟨rfl, ⟨⟨none, 0, 0, Blk.new w _ _, OwnK.nil _ _ _ _, rfl, fun h => (by cases h)⟩, updO_ge own (Nat.le_refl _), fun y hy => (by cases hy), by simp [idsH]⟩, (Below.refl _ _).alloc (Nat.le_refl _) _⟩
end Go.Proofs.YtaogegpfapfchaaGreatDoor

