/- TrimUndone's walk: a script composed with its inverse deletes and inserts the same bytes, and is empty if it deletes nothing. -/
import Derived.Test.YtookbaaicpapnaaUndoneP
import Derived.Test.YtookbaaicpapnaaUndoWalk
import Derived.Test.YtookbaaicpapnaaHasEdit
import Derived.Shelf.Abstract
namespace Go.Proofs.Ytookbaaicpapnaa
open Go.RowKit
set_option linter.unusedVariables false

set_option maxHeartbeats 1000000 in
theorem clo2_any (y x : Ed) (g : Nat) (w : World) (hx : Blk w g 31 #[.int .i64 x.1, .int .i64 x.2.1, .string x.2.2]) :
    Calls Try.prog 30 #[.agg #[.int .i64 y.1, .int .i64 y.2.1, .string y.2.2], .pointer (some ⟨g, 0, none⟩)] w fun e w' => e = .returned (.bool (decide (y.1 = x.1) && decide (y.2.1 = x.2.1))) ∧ Below w.heap.size w w' := by
  have hx' := hx.alloc (Obj.cells #[.int .i64 y.1, .int .i64 y.2.1, .string y.2.2] 31)
  have c0 : (w.alloc (Obj.cells #[.int .i64 y.1, .int .i64 y.2.1, .string y.2.2] 31)).cell? ⟨g, 0, none⟩ = some (.int .i64 x.1) := hx'.cell 0
  have c1 : (w.alloc (Obj.cells #[.int .i64 y.1, .int .i64 y.2.1, .string y.2.2] 31)).cell? ⟨g, 1, none⟩ = some (.int .i64 x.2.1) := hx'.cell 1
  have hY := Blk.new w 31 #[.int .i64 y.1, .int .i64 y.2.1, .string y.2.2]
  have d0 : (w.alloc (Obj.cells #[.int .i64 y.1, .int .i64 y.2.1, .string y.2.2] 31)).cell? ⟨w.heap.size, 0, none⟩ = some (.int .i64 y.1) := hY.cell 0
  have d1 : (w.alloc (Obj.cells #[.int .i64 y.1, .int .i64 y.2.1, .string y.2.2] 31)).cell? ⟨w.heap.size, 1, none⟩ = some (.int .i64 y.2.1) := hY.cell 1
  have hb : Below w.heap.size w (w.alloc (Obj.cells #[.int .i64 y.1, .int .i64 y.2.1, .string y.2.2] 31)) := (Below.refl _ _).alloc (Nat.le_refl _) _
  clear hx hx' hY
  obtain ⟨y1, y2, y3⟩ := y
  obtain ⟨x1, x2, x3⟩ := x
  simp only at c0 c1 d0 d1 hb
  by_cases h1 : y1 = x1
  · subst h1
    by_cases h2 : y2 = x2
    · subst h2
      go_enter Try.func30, Try.ntmps30
      go_wp2
      go_ret
      exact ⟨by simp, hb⟩
    · have q2 : decide (y2 = x2) = false := decide_eq_false h2
      have H2 := Lib.hid h2
      clear h2
      go_enter Try.func30, Try.ntmps30
      go_wp2
      go_ret
      exact ⟨by simp [H2.out], hb⟩
  · have q1 : decide (y1 = x1) = false := decide_eq_false h1
    have H1 := Lib.hid h1
    clear h1
    go_enter Try.func30, Try.ntmps30
    go_wp2
    go_ret
    exact ⟨by simp [q1], hb⟩

set_option maxHeartbeats 1000000 in
theorem clo1_any (x : Ed) (g : Nat) (A : Option Addr) (len cap B : Nat) (l : List Ed) (hl : l.length = len) (hn : len ≤ 1000000000000000) (w : World) (r : Reads w B A len 3 (l.flatMap cEdit)) (hB : B ≤ w.heap.size) (hg : Blk w g 22 #[.slice A len cap]) :
    Calls Try.prog 29 #[.agg #[.int .i64 x.1, .int .i64 x.2.1, .string x.2.2], .pointer (some ⟨g, 0, none⟩)] w fun e w' => e = .returned (.bool (!(l.any fun y => decide (y.1 = x.1) && decide (y.2.1 = x.2.1)))) ∧ Below w.heap.size w w' := by
  have hb : Below w.heap.size w (w.alloc (Obj.cells #[.int .i64 x.1, .int .i64 x.2.1, .string x.2.2] 31)) := (Below.refl _ _).alloc (Nat.le_refl _) _
  have hX := Blk.new w 31 #[.int .i64 x.1, .int .i64 x.2.1, .string x.2.2]
  have cg : (w.alloc (Obj.cells #[.int .i64 x.1, .int .i64 x.2.1, .string x.2.2] 31)).cell? ⟨g, 0, none⟩ = some (.slice A len cap) := (hg.alloc _).cell 0
  have hH := hasEdit 30 (enters_of Try.func30 (by kernel_rfl) rfl) (.pointer (some ⟨w.heap.size, 0, none⟩)) A len cap B l (fun y => decide (y.1 = x.1) && decide (y.2.1 = x.2.1)) hl hn (w.alloc (Obj.cells #[.int .i64 x.1, .int .i64 x.2.1, .string x.2.2] 31)) (r.below (hb.mono hB)) (Nat.le_trans hB hb.size)
    (fun y _ w1 hb1 => clo2_any y x w.heap.size w1 (hX.below hb1 hX.lt))
  have HH := Lib.hid hH
  clear hH hX r hg hl
  generalize (l.any fun y => decide (y.1 = x.1) && decide (y.2.1 = x.2.1)) = V at *
  go_enter Try.func29, Try.ntmps29
  go_wp2_with fail
  refine HH.out.mono ?_
  rintro e w1 ⟨rfl, hb1⟩
  go_wp2
  go_ret
  exact ⟨rfl, chain hb1 hb⟩
set_option maxRecDepth 100000 in
set_option maxHeartbeats 8000000 in
theorem trimUndone_walk (s : ByteArray) (A : Option Addr) (len cap : Nat) (l : List Ed) (hs : s.size ≤ 140737488351232) (w : World) (hl : EditsIn w A len cap l) :
    Calls Try.prog 7 #[.string s, .slice A len cap] w fun e w' => e = .returned (.bool true) ∧ Below w.heap.size w w' := by
  obtain ⟨hll, hrd, hlen, hok, hcap, hcapm, hnil⟩ := hl
  clear hcap hcapm hnil
  have Hll := Lib.hid hll
  have Hok := Lib.hid hok
  clear hll hok
  have hb0 : Below w.heap.size w (w.alloc (Obj.cells #[.slice A len cap] 22)) := (Below.refl _ _).alloc (Nat.le_refl _) _
  have hg0 := Blk.new w 22 #[.slice A len cap]
  have hsz0 : (w.alloc (Obj.cells #[.slice A len cap] 22)).heap.size = w.heap.size + 1 := by simp
  go_enter Try.func7, Try.ntmps7
  go_wp2_with fail
  generalize w.alloc (Obj.cells #[.slice A len cap] 22) = W at *
  refine (trims_any W).mono ?_
  rintro e w1 ⟨rfl, hb1⟩
  have g1 := hg0.after hb1
  have cg1 : w1.cell? ⟨w.heap.size, 0, none⟩ = some (.slice A len cap) := g1.cell 0
  have hbw1 := chain hb1 hb0
  go_wp2_with fail
  refine (edits_any _).mono ?_
  rintro e w2 ⟨rfl, hb2⟩
  have g2 := g1.after hb2
  have cg2 : w2.cell? ⟨w.heap.size, 0, none⟩ = some (.slice A len cap) := g2.cell 0
  have hbw2 := chain hb2 hbw1
  clear hb1 hb2 g1 cg1 hg0 hb0 hsz0 hbw1
  have hrd2 := hrd.below hbw2
  by_cases hE : checkE s.size l = 0
  case neg =>
    go_wp2_with fail
    refine (undo_no s (by omega) A len cap w.heap.size l (by omega) Hll.out Hok.out (checkE s.size l) rfl hE w2 hrd2 hbw2.size).mono ?_
    rintro e w3 ⟨rfl, hb3⟩
    have hbw3 := chain hb3 hbw2
    have q5 : (checkE s.size l != 0) = true := by simpa using hE
    generalize checkE s.size l = E at *
    clear hE
    go_wp2
    go_ret
    exact ⟨rfl, hbw3⟩
  have HE := Lib.hid hE
  clear hE
  go_wp2_with fail
  refine (undo_ok s A len cap w.heap.size l Hll.out HE.out w2 hrd2 hbw2.size).mono ?_
  rintro e w3 ⟨hb3, hu⟩
  have g3 := g2.after hb3
  have cg3 : w3.cell? ⟨w.heap.size, 0, none⟩ = some (.slice A len cap) := g3.cell 0
  have hbw3 := chain hb3 hbw2
  rcases hu with ⟨hdel, Au, cu, rfl, hru, hcu⟩ | ⟨_, rfl⟩
  case inr =>
    clear cg3
    go_wp2
    go_ret
    exact ⟨rfl, hbw3⟩
  obtain ⟨k0, k1, k2, k3, k4⟩ := checkE_ok HE.out
  obtain ⟨p1, p2, p3, p4⟩ := edit_undone s.data.toList l HE.out hdel
  have p5 := undo_length s.data.toList l 0
  obtain ⟨j0, j1, j2, j3, j4⟩ := checkE_ok p1
  have hrd3 := hrd.below hbw3
  have htwo := two_any (s.size : Int) (by omega) A Au len l.length cap cu w3.heap.size l (undoE s.data.toList 0 l) w3 ⟨Hll.out, hrd3.more hbw3.size, Hok.out, by show len ≤ 4398046511104; omega⟩ ⟨p5, hru, ok_bounds j1 j3, by show l.length ≤ 4398046511104; omega⟩ (Nat.le_refl _)
  by_cases hI : manyI s.size [l, undoE s.data.toList 0 l] = 0
  case neg =>
    have k1 := htwo.mono fun e w' h => many_wrong hI h
    have q1 : (manyI s.size [l, undoE s.data.toList 0 l] != 0) = true := by simpa using hI
    generalize manyI s.size [l, undoE s.data.toList 0 l] = I at *
    have K1 := Lib.hid k1
    clear k1 htwo hI p1 p2 p3 p4 p5 j0 j1 j2 j3 j4 k0 k2 k3 k4 hb3 hrd2 hrd3 hru hdel HE hrd Hok
    go_wp2_with fail
    refine K1.out.mono ?_
    rintro e w4 ⟨hb4, rfl⟩
    go_wp2
    go_ret
    exact ⟨rfl, chain hb4 hbw3⟩
  obtain ⟨m1, m2, m3⟩ := undone_law s l HE.out hdel hI
  have k1 := htwo.mono fun e w' h => many_good hI h
  have kA := fun (A1 : Option Addr) (c1 : Nat) (w4 : World) (r : Reads w4 w4.heap.size A1 (manyL s.size [l, undoE s.data.toList 0 l]).length 3 ((manyL s.size [l, undoE s.data.toList 0 l]).flatMap cEdit)) => apply_ok s A1 _ c1 w4.heap.size (manyL s.size [l, undoE s.data.toList 0 l]) rfl m2 w4 r (Nat.le_refl _)
  rw [show (⟨(app s.data.toList 0 (manyL s.size [l, undoE s.data.toList 0 l])).toArray⟩ : ByteArray) = s from m3] at kA
  obtain ⟨_, _, n2, _, _⟩ := checkE_ok m2
  have kz : ∀ z ∈ manyL s.size [l, undoE s.data.toList 0 l], (∃ i q : Nat, z.1 = i ∧ z.1 + z.2.1 = q ∧ i ≤ q ∧ q ≤ s.size ∧ s.extract i q = z.2.2) ∧ z.2.1 = z.2.2.size ∧ (l.any fun y => decide (y.1 = z.1) && decide (y.2.1 = z.2.1)) = true := fun z hz => keep_ok HE.out z (by rw [← m1]; exact hz)
  generalize manyL s.size [l, undoE s.data.toList 0 l] = M at *
  have K1 := Lib.hid k1
  have KA := Lib.hid kA
  have KZ := Lib.hid kz
  clear k1 kA kz htwo hI m1 m2 m3 p1 p2 p3 p4 p5 j0 j1 j2 j3 j4 k0 k2 k3 k4 hb3 hrd2 hrd3 hru hdel HE Hok
  go_wp2_with fail
  refine K1.out.mono ?_
  rintro e w4 ⟨hb4, A1, c1, rfl, r1⟩
  have g4 := g3.after hb4
  have hbw4 := chain hb4 hbw3
  obtain ⟨n, Hn⟩ : ∃ n, Hid (M.length = n) := ⟨_, Lib.hid rfl⟩
  rw [Hn.out] at r1 n2 KA
  rw [Hn.out]
  go_wp2_with fail
  refine (KA.out A1 c1 w4 r1).mono ?_
  rintro e w5 ⟨rfl, hb5⟩
  have g5 := g4.after hb5
  have hbw5 := chain hb5 hbw4
  have r5 := r1.after hb5
  have hB5 : w4.heap.size ≤ w5.heap.size := hb5.size
  have hs200 : s.size ≤ 200 := by omega
  clear hb4 hb5 KA K1 r1 g3 cg3 g2 cg2 hbw2 hbw3 hcu
  go_wp2
  go_loopw [12, 53] (fun _ i wr => ∃ k : Nat, k ≤ n ∧ i = .int .i64 k ∧ Below w5.heap.size w5 wr) (fun _ i _ => n - (intOf i).toNat)
  case atStart => exact ⟨0, Nat.zero_le _, rfl, Below.refl _ _⟩
  case round =>
    obtain ⟨k, hk, rfl, hbr⟩ := hrel
    by_cases hlt : k < n
    · obtain ⟨b, o, rfl, hbB, hc⟩ := (r5.below' hbr (Nat.le_refl _)).2 (by omega)
      have c0 := hc (k * 3 + 0) (by rw [flat_length cEdit 3 cEdit_len, Hn.out]; omega)
      have c1 := hc (k * 3 + 1) (by rw [flat_length cEdit 3 cEdit_len, Hn.out]; omega)
      have c2 := hc (k * 3 + 2) (by rw [flat_length cEdit 3 cEdit_len, Hn.out]; omega)
      have dE : Ed := (0, 0, ByteArray.empty)
      rw [flat_getD cEdit 3 cEdit_len dE M k _ (by rw [Hn.out]; omega) (by omega)] at c0 c1 c2
      simp only [cEdit, List.getD_cons_zero, List.getD_cons_succ, Nat.add_zero, ← Nat.add_assoc] at c0 c1 c2
      have hmem : M.getD k dE ∈ M := by rw [getD_some _ _ _ (by rw [Hn.out]; omega)]; exact List.getElem_mem _
      obtain ⟨⟨i, q, z1, z2, z3, z4, z5⟩, z6, z7⟩ := KZ.out _ hmem
      clear hc hmem z7
      generalize M.getD k dE = x at *
      obtain ⟨at_, del, ins⟩ := x
      simp only at c0 c1 c2 z1 z2 z5 z6
      subst z1
      subst z6
      have z2' : IntKind.i64.wrap ((i : Int) + (ins.size : Int)) = (q : Int) := by rw [IntKind.wrap_i64]; omega
      have q1 : decide ((i : Int) < 0) = false := decide_eq_false (by omega)
      have q2 : decide ((ins.size : Int) < 0) = false := decide_eq_false (by omega)
      have q3 : decide ((s.size : Int) < (q : Int)) = false := decide_eq_false (by omega)
      have q4 : decide (s.size < q) = false := decide_eq_false (by omega)
      have q5 : (ins.toList == ins.toList) = true := by simp
      have z3' : (i : Int) ≤ (q : Int) := by omega
      have z4' : (q : Int) ≤ (s.size : Int) := by omega
      have hX := Blk.new wr 31 #[.int .i64 (i : Int), .int .i64 (ins.size : Int), .string ins]
      have hbx := hbr.alloc hbr.size (Obj.cells #[.int .i64 (i : Int), .int .i64 (ins.size : Int), .string ins] 31)
      have hbd := buildEdit
      rcases Nat.eq_zero_or_pos k with k0 | k0
      · subst k0
        simp only [Nat.zero_mul, Nat.add_zero] at c0 c1 c2
        go_wp2
        generalize wr.alloc (Obj.cells #[.int .i64 (i : Int), .int .i64 (ins.size : Int), .string ins] 31) = Wx at *
        have x0 : Wx.cell? ⟨wr.heap.size, 0, none⟩ = some (.int .i64 (i : Int)) := hX.cell 0
        have x1 : Wx.cell? ⟨wr.heap.size, 1, none⟩ = some (.int .i64 (ins.size : Int)) := hX.cell 1
        have x2 : Wx.cell? ⟨wr.heap.size, 2, none⟩ = some (.string ins) := hX.cell 2
        clear c0 c1 c2
        go_quiet (fail)
        go_wp2
        go_roundw
        case rel => exact ⟨1, by omega, by go_num, below_drewN hbx _⟩
        case measure => simp only [intOf]; omega
      · go_wp2
        generalize wr.alloc (Obj.cells #[.int .i64 (i : Int), .int .i64 (ins.size : Int), .string ins] 31) = Wx at *
        have x0 : Wx.cell? ⟨wr.heap.size, 0, none⟩ = some (.int .i64 (i : Int)) := hX.cell 0
        have x1 : Wx.cell? ⟨wr.heap.size, 1, none⟩ = some (.int .i64 (ins.size : Int)) := hX.cell 1
        have x2 : Wx.cell? ⟨wr.heap.size, 2, none⟩ = some (.string ins) := hX.cell 2
        clear c0 c1 c2
        go_quiet (fail)
        go_wp2
        go_roundw
        case rel => exact ⟨k + 1, by omega, by go_num, below_drewN hbx _⟩
        case measure => simp only [intOf]; omega
    · obtain rfl : k = n := by omega
      have hC := hasEdit 29 (enters_of Try.func29 (by kernel_rfl) rfl) (.pointer (some ⟨w.heap.size, 0, none⟩)) A1 k c1 w5.heap.size M (fun x => !(l.any fun y => decide (y.1 = x.1) && decide (y.2.1 = x.2.1))) Hn.out (by omega) wr (r5.below hbr) hbr.size
        (fun x _ w1 hb1 => clo1_any x w.heap.size A len cap w.heap.size l Hll.out (by omega) w1 (hrd.below (chain (chain hb1 hbr) hbw5)) (chain (chain hb1 hbr) hbw5).size (g5.after (chain hb1 hbr)))
      rw [show (M.any fun x => !(l.any fun y => decide (y.1 = x.1) && decide (y.2.1 = x.2.1))) = false from by
        rw [List.any_eq_false]; intro z hz; rw [(KZ.out z hz).2.2]; simp] at hC
      have HC := Lib.hid hC
      have hbwr := chain hbr hbw5
      have q5 : (s.toList == s.toList) = true := by simp
      clear hC KZ r5 g4 g5 hbw4 hB5 hlt hrd Hn Hll
      go_wp2_with fail
      refine HC.out.mono ?_
      rintro e w6 ⟨rfl, hb6⟩
      go_wp2
      go_ret
      exact ⟨rfl, chain hb6 hbwr⟩
end Go.Proofs.Ytookbaaicpapnaa
