/- ShiftStays' walk: past nothing an operation is as it was, insertions are preserved, and deletions delete the same byte or nothing. -/
import Derived.Test.YtpeplkjidljpmaaShiftTwo
namespace Go.Proofs.Ytpeplkjidljpmaa
open Go.RowKit
set_option linter.unusedVariables false

theorem getD_of_getElem? {l m : List UInt8} {i j : Nat} (h : l[i]? = m[j]?) : l.getD i 0 = m.getD j 0 := by rw [List.getD_eq_getElem?_getD, List.getD_eq_getElem?_getD, h]
theorem stays_put {n a : Int} {b : UInt8} {y : Op3} {f : Bool} (hy : chO n y = 0) : ∃ z : Int, pst (1, a, b) y f = (1, z, b) ∧ a - 1 ≤ z ∧ z ≤ a + 1 := by
  obtain ⟨_, _, ky⟩ := chO_ok hy
  obtain ⟨l, c, d⟩ := y
  simp only at ky
  rcases ky with ⟨rfl, _, _, _⟩ | ⟨rfl, _, _, rfl⟩ | ⟨rfl, rfl, rfl⟩
  · rw [pst_put_put]; split <;> exact ⟨_, rfl, by omega, by omega⟩
  · rw [pst_put_take]; split <;> exact ⟨_, rfl, by omega, by omega⟩
  · rw [pst_none_right]; exact ⟨_, rfl, by omega, by omega⟩
theorem stays_take {s : List UInt8} {a : Nat} {y : Op3} {f : Bool} (ha : a < s.length) (hy : chO s.length y = 0) :
    (pst (2, (a : Int), 0) y f = (3, 0, 0) ∧ y.1 = 2 ∧ y.2.1 = a) ∨ ∃ m : Nat, pst (2, (a : Int), 0) y f = (2, (m : Int), 0) ∧ m < (doO s y).length ∧ (doO s y).getD m 0 = s.getD a 0 := by
  have hl := doO_len hy
  obtain ⟨_, _, ky⟩ := chO_ok hy
  obtain ⟨l, c, d⟩ := y
  simp only at ky
  rcases ky with ⟨rfl, h1, h2, _⟩ | ⟨rfl, h1, h2, rfl⟩ | ⟨rfl, rfl, rfl⟩
  · obtain ⟨c, rfl⟩ : ∃ m : Nat, c = m := ⟨c.toNat, by omega⟩
    rw [show sizeO (1, (c : Int), d) = 1 from rfl] at hl
    rw [pst_take_put]
    right
    by_cases h : (c : Int) ≤ a
    · rw [if_pos h]
      refine ⟨a + 1, by rw [show ((a + 1 : Nat) : Int) = (a : Int) + 1 from rfl], by omega, ?_⟩
      rw [doO_put]
      refine getD_of_getElem? ?_
      rw [ins_at _ _ _ (by omega), if_neg (by omega), if_neg (by omega), Nat.add_sub_cancel]
    · rw [if_neg h]
      refine ⟨a, rfl, by omega, ?_⟩
      rw [doO_put]
      refine getD_of_getElem? ?_
      rw [ins_at _ _ _ (by omega), if_pos (by omega)]
  · obtain ⟨c, rfl⟩ : ∃ m : Nat, c = m := ⟨c.toNat, by omega⟩
    rw [show sizeO (2, (c : Int), 0) = -1 from rfl] at hl
    rw [pst_take_take]
    by_cases h0 : (a : Int) = c
    · rw [if_pos h0]; exact .inl ⟨rfl, rfl, h0.symm⟩
    rw [if_neg h0]
    right
    by_cases h : (c : Int) < a
    · rw [if_pos h]
      refine ⟨a - 1, by rw [show ((a - 1 : Nat) : Int) = (a : Int) - 1 from by omega], by omega, ?_⟩
      rw [doO_take]
      refine getD_of_getElem? ?_
      rw [del_at _ _ (by omega), if_neg (by omega), Nat.sub_add_cancel (by omega)]
    · rw [if_neg h]
      refine ⟨a, rfl, by omega, ?_⟩
      rw [doO_take]
      refine getD_of_getElem? ?_
      rw [del_at _ _ (by omega), if_pos (by omega)]
  · rw [pst_none_right, doO_none]
    exact .inr ⟨a, rfl, ha, rfl⟩

set_option maxRecDepth 100000 in
set_option maxHeartbeats 2000000 in
theorem stays_err (s0 s : ByteArray) (k a l c : Int) (b d : UInt8) (E En nk na : Int) (nb : UInt8) (f : Bool) (cs : ∀ w, Calls Try.prog 16 #[.string s0, .int .i64 198] w fun e w' => e = .returned (.string s) ∧ w = w')
    (h3 : ∀ w, Calls Try.prog 17 #[.int .i64 s.size, .agg #[.int .i64 k, .int .i64 a, .int .u8 (b.toNat : Int)], .agg #[.int .i64 l, .int .i64 c, .int .u8 (d.toNat : Int)], .bool f] w fun e w' => e = .returned (.tuple #[.agg #[.int .i64 0, .int .i64 0, .int .u8 0], .int .i64 E]) ∧ Below w.heap.size w w')
    (h4 : ∀ w, Calls Try.prog 17 #[.int .i64 s.size, .agg #[.int .i64 k, .int .i64 a, .int .u8 (b.toNat : Int)], .agg #[.int .i64 3, .int .i64 0, .int .u8 0], .bool f] w fun e w' => e = .returned (.tuple #[.agg #[.int .i64 nk, .int .i64 na, .int .u8 (nb.toNat : Int)], .int .i64 En]) ∧ Below w.heap.size w w') (hE : E ≠ 0) (w : World) :
    Calls Try.prog 3 #[.string s0, .agg #[.int .i64 k, .int .i64 a, .int .u8 (b.toNat : Int)], .agg #[.int .i64 l, .int .i64 c, .int .u8 (d.toNat : Int)], .bool f] w fun e w' => e = .returned (.bool true) ∧ Below w.heap.size w w' := by
  have CS := Lib.hid cs
  have H3 := Lib.hid h3
  have H4 := Lib.hid h4
  have q0 : (E != 0) = true := by rw [bne_iff_ne]; exact hE
  have heq := eqOp 0 0 0 0 0 0
  have hgd := guardOp
  clear cs h3 h4
  go_enter Try.func3, Try.ntmps3
  go_wp2_with fail
  have hX := (Blk.new w 23 #[.int .i64 k, .int .i64 a, .int .u8 (b.toNat : Int)]).alloc (Obj.cells #[.int .i64 l, .int .i64 c, .int .u8 (d.toNat : Int)] 23)
  have hY := Blk.new (w.alloc (Obj.cells #[.int .i64 k, .int .i64 a, .int .u8 (b.toNat : Int)] 23)) 23 #[.int .i64 l, .int .i64 c, .int .u8 (d.toNat : Int)]
  have hbw := ((Below.refl w.heap.size w).alloc (Nat.le_refl _) (Obj.cells #[.int .i64 k, .int .i64 a, .int .u8 (b.toNat : Int)] 23)).alloc (by simp) (Obj.cells #[.int .i64 l, .int .i64 c, .int .u8 (d.toNat : Int)] 23)
  rw [show (w.alloc (Obj.cells #[.int .i64 k, .int .i64 a, .int .u8 (b.toNat : Int)] 23)).heap.size = w.heap.size + 1 from by simp] at hY
  generalize (w.alloc (Obj.cells #[.int .i64 k, .int .i64 a, .int .u8 (b.toNat : Int)] 23)).alloc (Obj.cells #[.int .i64 l, .int .i64 c, .int .u8 (d.toNat : Int)] 23) = W at *
  refine (shifts_any _).mono ?_
  rintro e w1 ⟨rfl, hb1⟩
  replace hX := hX.after hb1
  replace hY := hY.after hb1
  replace hbw := chain hb1 hbw
  clear hb1
  go_wp2_with fail
  refine (CS.out _).mono ?_
  rintro e w2 ⟨rfl, rfl⟩
  have x0 := hX.cell 0
  have x1 := hX.cell 1
  have x2 := hX.cell 2
  have y0 := hY.cell 0
  have y1 := hY.cell 1
  have y2 := hY.cell 2
  go_wp2_with fail
  refine (H3.out _).mono ?_
  rintro e w3 ⟨rfl, hb3⟩
  clear x0 x1 x2 y0 y1 y2
  replace hX := (hX.after hb3).alloc (Obj.cells #[.int .i64 0, .int .i64 0, .int .u8 0] 23)
  replace hY := (hY.after hb3).alloc (Obj.cells #[.int .i64 0, .int .i64 0, .int .u8 0] 23)
  have hZ := Blk.new w3 23 #[.int .i64 0, .int .i64 0, .int .u8 0]
  replace hbw := chain hb3 hbw
  replace hbw := hbw.alloc hbw.size (Obj.cells #[.int .i64 0, .int .i64 0, .int .u8 0] 23)
  clear hb3
  have x0 := hX.cell 0
  have x1 := hX.cell 1
  have x2 := hX.cell 2
  have y0 := hY.cell 0
  have y1 := hY.cell 1
  have y2 := hY.cell 2
  go_wp2_with fail
  generalize w3.alloc (Obj.cells #[.int .i64 0, .int .i64 0, .int .u8 0] 23) = W3 at *
  refine (H4.out _).mono ?_
  rintro e w4 ⟨rfl, hb4⟩
  clear x0 x1 x2 y0 y1 y2
  replace hX := (hX.after hb4).alloc (Obj.cells #[.int .i64 nk, .int .i64 na, .int .u8 (nb.toNat : Int)] 23)
  replace hY := (hY.after hb4).alloc (Obj.cells #[.int .i64 nk, .int .i64 na, .int .u8 (nb.toNat : Int)] 23)
  replace hZ := (hZ.after hb4).alloc (Obj.cells #[.int .i64 nk, .int .i64 na, .int .u8 (nb.toNat : Int)] 23)
  have hN := Blk.new w4 23 #[.int .i64 nk, .int .i64 na, .int .u8 (nb.toNat : Int)]
  replace hbw := chain hb4 hbw
  replace hbw := hbw.alloc hbw.size (Obj.cells #[.int .i64 nk, .int .i64 na, .int .u8 (nb.toNat : Int)] 23)
  clear hb4
  have x0 := hX.cell 0
  have x1 := hX.cell 1
  have x2 := hX.cell 2
  have y0 := hY.cell 0
  have y1 := hY.cell 1
  have y2 := hY.cell 2
  have z0 := hZ.cell 0
  have z1 := hZ.cell 1
  have z2 := hZ.cell 2
  have n0 := hN.cell 0
  have n1 := hN.cell 1
  have n2 := hN.cell 2
  go_wp2
  go_ret
  exact ⟨by simp, hbw⟩

set_option maxRecDepth 100000 in
set_option maxHeartbeats 2000000 in
theorem stays_one (s0 s : ByteArray) (a l c z : Int) (b d : UInt8) (f : Bool) (cs : ∀ w, Calls Try.prog 16 #[.string s0, .int .i64 198] w fun e w' => e = .returned (.string s) ∧ w = w')
    (h3 : ∀ w, Calls Try.prog 17 #[.int .i64 s.size, .agg #[.int .i64 1, .int .i64 a, .int .u8 (b.toNat : Int)], .agg #[.int .i64 l, .int .i64 c, .int .u8 (d.toNat : Int)], .bool f] w fun e w' => e = .returned (.tuple #[.agg #[.int .i64 1, .int .i64 z, .int .u8 (b.toNat : Int)], .int .i64 0]) ∧ Below w.heap.size w w')
    (h4 : ∀ w, Calls Try.prog 17 #[.int .i64 s.size, .agg #[.int .i64 1, .int .i64 a, .int .u8 (b.toNat : Int)], .agg #[.int .i64 3, .int .i64 0, .int .u8 0], .bool f] w fun e w' => e = .returned (.tuple #[.agg #[.int .i64 1, .int .i64 a, .int .u8 (b.toNat : Int)], .int .i64 0]) ∧ Below w.heap.size w w') (ha : 0 ≤ a ∧ a ≤ 200) (hz1 : a - 1 ≤ z) (hz2 : z ≤ a + 1) (w : World) :
    Calls Try.prog 3 #[.string s0, .agg #[.int .i64 1, .int .i64 a, .int .u8 (b.toNat : Int)], .agg #[.int .i64 l, .int .i64 c, .int .u8 (d.toNat : Int)], .bool f] w fun e w' => e = .returned (.bool true) ∧ Below w.heap.size w w' := by
  have CS := Lib.hid cs
  have H3 := Lib.hid h3
  have H4 := Lib.hid h4
  have hgd := guardOp
  have hnq := neqOp 1 a (b.toNat : Int) 1 a (b.toNat : Int)
  have q1 : decide (a - 1 ≤ z) = true := decide_eq_true hz1
  have q2 : decide (z ≤ a + 1) = true := decide_eq_true hz2
  clear cs h3 h4
  go_enter Try.func3, Try.ntmps3
  go_wp2_with fail
  have hX := (Blk.new w 23 #[.int .i64 1, .int .i64 a, .int .u8 (b.toNat : Int)]).alloc (Obj.cells #[.int .i64 l, .int .i64 c, .int .u8 (d.toNat : Int)] 23)
  have hY := Blk.new (w.alloc (Obj.cells #[.int .i64 1, .int .i64 a, .int .u8 (b.toNat : Int)] 23)) 23 #[.int .i64 l, .int .i64 c, .int .u8 (d.toNat : Int)]
  have hbw := ((Below.refl w.heap.size w).alloc (Nat.le_refl _) (Obj.cells #[.int .i64 1, .int .i64 a, .int .u8 (b.toNat : Int)] 23)).alloc (by simp) (Obj.cells #[.int .i64 l, .int .i64 c, .int .u8 (d.toNat : Int)] 23)
  rw [show (w.alloc (Obj.cells #[.int .i64 1, .int .i64 a, .int .u8 (b.toNat : Int)] 23)).heap.size = w.heap.size + 1 from by simp] at hY
  generalize (w.alloc (Obj.cells #[.int .i64 1, .int .i64 a, .int .u8 (b.toNat : Int)] 23)).alloc (Obj.cells #[.int .i64 l, .int .i64 c, .int .u8 (d.toNat : Int)] 23) = W at *
  refine (shifts_any _).mono ?_
  rintro e w1 ⟨rfl, hb1⟩
  replace hX := hX.after hb1
  replace hY := hY.after hb1
  replace hbw := chain hb1 hbw
  clear hb1
  go_wp2_with fail
  refine (CS.out _).mono ?_
  rintro e w2 ⟨rfl, rfl⟩
  have x0 := hX.cell 0
  have x1 := hX.cell 1
  have x2 := hX.cell 2
  have y0 := hY.cell 0
  have y1 := hY.cell 1
  have y2 := hY.cell 2
  go_wp2_with fail
  refine (H3.out _).mono ?_
  rintro e w3 ⟨rfl, hb3⟩
  clear x0 x1 x2 y0 y1 y2
  replace hX := (hX.after hb3).alloc (Obj.cells #[.int .i64 1, .int .i64 z, .int .u8 (b.toNat : Int)] 23)
  replace hY := (hY.after hb3).alloc (Obj.cells #[.int .i64 1, .int .i64 z, .int .u8 (b.toNat : Int)] 23)
  have hZ := Blk.new w3 23 #[.int .i64 1, .int .i64 z, .int .u8 (b.toNat : Int)]
  replace hbw := chain hb3 hbw
  replace hbw := hbw.alloc hbw.size (Obj.cells #[.int .i64 1, .int .i64 z, .int .u8 (b.toNat : Int)] 23)
  clear hb3
  have x0 := hX.cell 0
  have x1 := hX.cell 1
  have x2 := hX.cell 2
  have y0 := hY.cell 0
  have y1 := hY.cell 1
  have y2 := hY.cell 2
  go_wp2_with fail
  generalize w3.alloc (Obj.cells #[.int .i64 1, .int .i64 z, .int .u8 (b.toNat : Int)] 23) = W3 at *
  refine (H4.out _).mono ?_
  rintro e w4 ⟨rfl, hb4⟩
  clear x0 x1 x2 y0 y1 y2
  replace hX := (hX.after hb4).alloc (Obj.cells #[.int .i64 1, .int .i64 a, .int .u8 (b.toNat : Int)] 23)
  replace hY := (hY.after hb4).alloc (Obj.cells #[.int .i64 1, .int .i64 a, .int .u8 (b.toNat : Int)] 23)
  replace hZ := (hZ.after hb4).alloc (Obj.cells #[.int .i64 1, .int .i64 a, .int .u8 (b.toNat : Int)] 23)
  have hN := Blk.new w4 23 #[.int .i64 1, .int .i64 a, .int .u8 (b.toNat : Int)]
  replace hbw := chain hb4 hbw
  replace hbw := hbw.alloc hbw.size (Obj.cells #[.int .i64 1, .int .i64 a, .int .u8 (b.toNat : Int)] 23)
  clear hb4
  have x0 := hX.cell 0
  have x1 := hX.cell 1
  have x2 := hX.cell 2
  have y0 := hY.cell 0
  have y1 := hY.cell 1
  have y2 := hY.cell 2
  have z0 := hZ.cell 0
  have z1 := hZ.cell 1
  have z2 := hZ.cell 2
  have n0 := hN.cell 0
  have n1 := hN.cell 1
  have n2 := hN.cell 2
  go_wp2
  go_ret
  exact ⟨by simp, hbw⟩

set_option maxRecDepth 100000 in
set_option maxHeartbeats 2000000 in
theorem stays_three (s0 s : ByteArray) (a l c : Int) (b d : UInt8) (f : Bool) (cs : ∀ w, Calls Try.prog 16 #[.string s0, .int .i64 198] w fun e w' => e = .returned (.string s) ∧ w = w')
    (h3 : ∀ w, Calls Try.prog 17 #[.int .i64 s.size, .agg #[.int .i64 3, .int .i64 a, .int .u8 (b.toNat : Int)], .agg #[.int .i64 l, .int .i64 c, .int .u8 (d.toNat : Int)], .bool f] w fun e w' => e = .returned (.tuple #[.agg #[.int .i64 3, .int .i64 a, .int .u8 (b.toNat : Int)], .int .i64 0]) ∧ Below w.heap.size w w')
    (h4 : ∀ w, Calls Try.prog 17 #[.int .i64 s.size, .agg #[.int .i64 3, .int .i64 a, .int .u8 (b.toNat : Int)], .agg #[.int .i64 3, .int .i64 0, .int .u8 0], .bool f] w fun e w' => e = .returned (.tuple #[.agg #[.int .i64 3, .int .i64 a, .int .u8 (b.toNat : Int)], .int .i64 0]) ∧ Below w.heap.size w w') (w : World) :
    Calls Try.prog 3 #[.string s0, .agg #[.int .i64 3, .int .i64 a, .int .u8 (b.toNat : Int)], .agg #[.int .i64 l, .int .i64 c, .int .u8 (d.toNat : Int)], .bool f] w fun e w' => e = .returned (.bool true) ∧ Below w.heap.size w w' := by
  have CS := Lib.hid cs
  have H3 := Lib.hid h3
  have H4 := Lib.hid h4
  have hgd := guardOp
  have hnq := neqOp 3 a (b.toNat : Int) 3 a (b.toNat : Int)
  have heq := eqOp 3 a (b.toNat : Int) 3 a (b.toNat : Int)
  clear cs h3 h4
  go_enter Try.func3, Try.ntmps3
  go_wp2_with fail
  have hX := (Blk.new w 23 #[.int .i64 3, .int .i64 a, .int .u8 (b.toNat : Int)]).alloc (Obj.cells #[.int .i64 l, .int .i64 c, .int .u8 (d.toNat : Int)] 23)
  have hY := Blk.new (w.alloc (Obj.cells #[.int .i64 3, .int .i64 a, .int .u8 (b.toNat : Int)] 23)) 23 #[.int .i64 l, .int .i64 c, .int .u8 (d.toNat : Int)]
  have hbw := ((Below.refl w.heap.size w).alloc (Nat.le_refl _) (Obj.cells #[.int .i64 3, .int .i64 a, .int .u8 (b.toNat : Int)] 23)).alloc (by simp) (Obj.cells #[.int .i64 l, .int .i64 c, .int .u8 (d.toNat : Int)] 23)
  rw [show (w.alloc (Obj.cells #[.int .i64 3, .int .i64 a, .int .u8 (b.toNat : Int)] 23)).heap.size = w.heap.size + 1 from by simp] at hY
  generalize (w.alloc (Obj.cells #[.int .i64 3, .int .i64 a, .int .u8 (b.toNat : Int)] 23)).alloc (Obj.cells #[.int .i64 l, .int .i64 c, .int .u8 (d.toNat : Int)] 23) = W at *
  refine (shifts_any _).mono ?_
  rintro e w1 ⟨rfl, hb1⟩
  replace hX := hX.after hb1
  replace hY := hY.after hb1
  replace hbw := chain hb1 hbw
  clear hb1
  go_wp2_with fail
  refine (CS.out _).mono ?_
  rintro e w2 ⟨rfl, rfl⟩
  have x0 := hX.cell 0
  have x1 := hX.cell 1
  have x2 := hX.cell 2
  have y0 := hY.cell 0
  have y1 := hY.cell 1
  have y2 := hY.cell 2
  go_wp2_with fail
  refine (H3.out _).mono ?_
  rintro e w3 ⟨rfl, hb3⟩
  clear x0 x1 x2 y0 y1 y2
  replace hX := (hX.after hb3).alloc (Obj.cells #[.int .i64 3, .int .i64 a, .int .u8 (b.toNat : Int)] 23)
  replace hY := (hY.after hb3).alloc (Obj.cells #[.int .i64 3, .int .i64 a, .int .u8 (b.toNat : Int)] 23)
  have hZ := Blk.new w3 23 #[.int .i64 3, .int .i64 a, .int .u8 (b.toNat : Int)]
  replace hbw := chain hb3 hbw
  replace hbw := hbw.alloc hbw.size (Obj.cells #[.int .i64 3, .int .i64 a, .int .u8 (b.toNat : Int)] 23)
  clear hb3
  have x0 := hX.cell 0
  have x1 := hX.cell 1
  have x2 := hX.cell 2
  have y0 := hY.cell 0
  have y1 := hY.cell 1
  have y2 := hY.cell 2
  go_wp2_with fail
  generalize w3.alloc (Obj.cells #[.int .i64 3, .int .i64 a, .int .u8 (b.toNat : Int)] 23) = W3 at *
  refine (H4.out _).mono ?_
  rintro e w4 ⟨rfl, hb4⟩
  clear x0 x1 x2 y0 y1 y2
  replace hX := (hX.after hb4).alloc (Obj.cells #[.int .i64 3, .int .i64 a, .int .u8 (b.toNat : Int)] 23)
  replace hY := (hY.after hb4).alloc (Obj.cells #[.int .i64 3, .int .i64 a, .int .u8 (b.toNat : Int)] 23)
  replace hZ := (hZ.after hb4).alloc (Obj.cells #[.int .i64 3, .int .i64 a, .int .u8 (b.toNat : Int)] 23)
  have hN := Blk.new w4 23 #[.int .i64 3, .int .i64 a, .int .u8 (b.toNat : Int)]
  replace hbw := chain hb4 hbw
  replace hbw := hbw.alloc hbw.size (Obj.cells #[.int .i64 3, .int .i64 a, .int .u8 (b.toNat : Int)] 23)
  clear hb4
  have x0 := hX.cell 0
  have x1 := hX.cell 1
  have x2 := hX.cell 2
  have y0 := hY.cell 0
  have y1 := hY.cell 1
  have y2 := hY.cell 2
  have z0 := hZ.cell 0
  have z1 := hZ.cell 1
  have z2 := hZ.cell 2
  have n0 := hN.cell 0
  have n1 := hN.cell 1
  have n2 := hN.cell 2
  go_wp2
  go_ret
  exact ⟨by simp, hbw⟩

set_option maxRecDepth 100000 in
set_option maxHeartbeats 2000000 in
theorem stays_gone (s0 s : ByteArray) (a : Int) (b d : UInt8) (t : ByteArray) (f : Bool) (cs : ∀ w, Calls Try.prog 16 #[.string s0, .int .i64 198] w fun e w' => e = .returned (.string s) ∧ w = w')
    (h3 : ∀ w, Calls Try.prog 17 #[.int .i64 s.size, .agg #[.int .i64 2, .int .i64 a, .int .u8 (b.toNat : Int)], .agg #[.int .i64 2, .int .i64 a, .int .u8 (d.toNat : Int)], .bool f] w fun e w' => e = .returned (.tuple #[.agg #[.int .i64 3, .int .i64 0, .int .u8 0], .int .i64 0]) ∧ Below w.heap.size w w')
    (h4 : ∀ w, Calls Try.prog 17 #[.int .i64 s.size, .agg #[.int .i64 2, .int .i64 a, .int .u8 (b.toNat : Int)], .agg #[.int .i64 3, .int .i64 0, .int .u8 0], .bool f] w fun e w' => e = .returned (.tuple #[.agg #[.int .i64 2, .int .i64 a, .int .u8 (b.toNat : Int)], .int .i64 0]) ∧ Below w.heap.size w w') (h5 : ∀ w, Calls Try.prog 18 #[.string s, .agg #[.int .i64 2, .int .i64 a, .int .u8 (d.toNat : Int)]] w fun e w' => e = .returned (.tuple #[.string t, .int .i64 0]) ∧ Below w.heap.size w w') (w : World) :
    Calls Try.prog 3 #[.string s0, .agg #[.int .i64 2, .int .i64 a, .int .u8 (b.toNat : Int)], .agg #[.int .i64 2, .int .i64 a, .int .u8 (d.toNat : Int)], .bool f] w fun e w' => e = .returned (.bool true) ∧ Below w.heap.size w w' := by
  have CS := Lib.hid cs
  have H3 := Lib.hid h3
  have H4 := Lib.hid h4
  have hgd := guardOp
  have hnq := neqOp 2 a (b.toNat : Int) 2 a (b.toNat : Int)
  have H5 := Lib.hid h5
  clear h5
  clear cs h3 h4
  go_enter Try.func3, Try.ntmps3
  go_wp2_with fail
  have hX := (Blk.new w 23 #[.int .i64 2, .int .i64 a, .int .u8 (b.toNat : Int)]).alloc (Obj.cells #[.int .i64 2, .int .i64 a, .int .u8 (d.toNat : Int)] 23)
  have hY := Blk.new (w.alloc (Obj.cells #[.int .i64 2, .int .i64 a, .int .u8 (b.toNat : Int)] 23)) 23 #[.int .i64 2, .int .i64 a, .int .u8 (d.toNat : Int)]
  have hbw := ((Below.refl w.heap.size w).alloc (Nat.le_refl _) (Obj.cells #[.int .i64 2, .int .i64 a, .int .u8 (b.toNat : Int)] 23)).alloc (by simp) (Obj.cells #[.int .i64 2, .int .i64 a, .int .u8 (d.toNat : Int)] 23)
  rw [show (w.alloc (Obj.cells #[.int .i64 2, .int .i64 a, .int .u8 (b.toNat : Int)] 23)).heap.size = w.heap.size + 1 from by simp] at hY
  generalize (w.alloc (Obj.cells #[.int .i64 2, .int .i64 a, .int .u8 (b.toNat : Int)] 23)).alloc (Obj.cells #[.int .i64 2, .int .i64 a, .int .u8 (d.toNat : Int)] 23) = W at *
  refine (shifts_any _).mono ?_
  rintro e w1 ⟨rfl, hb1⟩
  replace hX := hX.after hb1
  replace hY := hY.after hb1
  replace hbw := chain hb1 hbw
  clear hb1
  go_wp2_with fail
  refine (CS.out _).mono ?_
  rintro e w2 ⟨rfl, rfl⟩
  have x0 := hX.cell 0
  have x1 := hX.cell 1
  have x2 := hX.cell 2
  have y0 := hY.cell 0
  have y1 := hY.cell 1
  have y2 := hY.cell 2
  go_wp2_with fail
  refine (H3.out _).mono ?_
  rintro e w3 ⟨rfl, hb3⟩
  clear x0 x1 x2 y0 y1 y2
  replace hX := (hX.after hb3).alloc (Obj.cells #[.int .i64 3, .int .i64 0, .int .u8 0] 23)
  replace hY := (hY.after hb3).alloc (Obj.cells #[.int .i64 3, .int .i64 0, .int .u8 0] 23)
  have hZ := Blk.new w3 23 #[.int .i64 3, .int .i64 0, .int .u8 0]
  replace hbw := chain hb3 hbw
  replace hbw := hbw.alloc hbw.size (Obj.cells #[.int .i64 3, .int .i64 0, .int .u8 0] 23)
  clear hb3
  have x0 := hX.cell 0
  have x1 := hX.cell 1
  have x2 := hX.cell 2
  have y0 := hY.cell 0
  have y1 := hY.cell 1
  have y2 := hY.cell 2
  go_wp2_with fail
  generalize w3.alloc (Obj.cells #[.int .i64 3, .int .i64 0, .int .u8 0] 23) = W3 at *
  refine (H4.out _).mono ?_
  rintro e w4 ⟨rfl, hb4⟩
  clear x0 x1 x2 y0 y1 y2
  replace hX := (hX.after hb4).alloc (Obj.cells #[.int .i64 2, .int .i64 a, .int .u8 (b.toNat : Int)] 23)
  replace hY := (hY.after hb4).alloc (Obj.cells #[.int .i64 2, .int .i64 a, .int .u8 (b.toNat : Int)] 23)
  replace hZ := (hZ.after hb4).alloc (Obj.cells #[.int .i64 2, .int .i64 a, .int .u8 (b.toNat : Int)] 23)
  have hN := Blk.new w4 23 #[.int .i64 2, .int .i64 a, .int .u8 (b.toNat : Int)]
  replace hbw := chain hb4 hbw
  replace hbw := hbw.alloc hbw.size (Obj.cells #[.int .i64 2, .int .i64 a, .int .u8 (b.toNat : Int)] 23)
  clear hb4
  have x0 := hX.cell 0
  have x1 := hX.cell 1
  have x2 := hX.cell 2
  have y0 := hY.cell 0
  have y1 := hY.cell 1
  have y2 := hY.cell 2
  have z0 := hZ.cell 0
  have z1 := hZ.cell 1
  have z2 := hZ.cell 2
  have n0 := hN.cell 0
  have n1 := hN.cell 1
  have n2 := hN.cell 2
  go_wp2_with fail
  generalize w4.alloc (Obj.cells #[.int .i64 2, .int .i64 a, .int .u8 (b.toNat : Int)] 23) = W4 at *
  refine (H5.out _).mono ?_
  rintro e w5 ⟨rfl, hb5⟩
  clear x0 x1 x2 y0 y1 y2 z0 z1 z2 n0 n1 n2
  replace hX := hX.after hb5
  replace hY := hY.after hb5
  replace hZ := hZ.after hb5
  replace hbw := chain hb5 hbw
  clear hb5 hN
  have x0 := hX.cell 0
  have x1 := hX.cell 1
  have x2 := hX.cell 2
  have y0 := hY.cell 0
  have y1 := hY.cell 1
  have y2 := hY.cell 2
  have z0 := hZ.cell 0
  have z1 := hZ.cell 1
  have z2 := hZ.cell 2
  go_wp2
  go_ret
  exact ⟨by simp, hbw⟩

set_option maxRecDepth 100000 in
set_option maxHeartbeats 2000000 in
theorem stays_two (s0 s : ByteArray) (a : Nat) (l c : Int) (b d e0 : UInt8) (m : Nat) (t : ByteArray) (f : Bool) (cs : ∀ w, Calls Try.prog 16 #[.string s0, .int .i64 198] w fun e w' => e = .returned (.string s) ∧ w = w')
    (h3 : ∀ w, Calls Try.prog 17 #[.int .i64 s.size, .agg #[.int .i64 2, .int .i64 (a : Int), .int .u8 (b.toNat : Int)], .agg #[.int .i64 l, .int .i64 c, .int .u8 (d.toNat : Int)], .bool f] w fun e w' => e = .returned (.tuple #[.agg #[.int .i64 2, .int .i64 (m : Int), .int .u8 (e0.toNat : Int)], .int .i64 0]) ∧ Below w.heap.size w w')
    (h4 : ∀ w, Calls Try.prog 17 #[.int .i64 s.size, .agg #[.int .i64 2, .int .i64 (a : Int), .int .u8 (b.toNat : Int)], .agg #[.int .i64 3, .int .i64 0, .int .u8 0], .bool f] w fun e w' => e = .returned (.tuple #[.agg #[.int .i64 2, .int .i64 (a : Int), .int .u8 (b.toNat : Int)], .int .i64 0]) ∧ Below w.heap.size w w') (h5 : ∀ w, Calls Try.prog 18 #[.string s, .agg #[.int .i64 l, .int .i64 c, .int .u8 (d.toNat : Int)]] w fun e w' => e = .returned (.tuple #[.string t, .int .i64 0]) ∧ Below w.heap.size w w') (ha : a < s.size) (hm : m < t.size) (he : t[m] = s[a]) (w : World) :
    Calls Try.prog 3 #[.string s0, .agg #[.int .i64 2, .int .i64 (a : Int), .int .u8 (b.toNat : Int)], .agg #[.int .i64 l, .int .i64 c, .int .u8 (d.toNat : Int)], .bool f] w fun e w' => e = .returned (.bool true) ∧ Below w.heap.size w w' := by
  have CS := Lib.hid cs
  have H3 := Lib.hid h3
  have H4 := Lib.hid h4
  have hgd := guardOp
  have hnq := neqOp 2 (a : Int) (b.toNat : Int) 2 (a : Int) (b.toNat : Int)
  have H5 := Lib.hid h5
  clear h5
  have ha1 : (a : Int) < s.size := by omega
  have hm1 : (m : Int) < t.size := by omega
  have q1 : ((t[m].toNat : Int) == (s[a].toNat : Int)) = true := by rw [he]; simp
  have q2 : decide ((m : Int) < (t.size : Int)) = true := decide_eq_true hm1
  have q2n : decide (m < t.size) = true := decide_eq_true hm
  have q3 : decide ((0 : Int) ≤ (m : Int)) = true := decide_eq_true (by omega)
  clear cs h3 h4
  go_enter Try.func3, Try.ntmps3
  go_wp2_with fail
  have hX := (Blk.new w 23 #[.int .i64 2, .int .i64 (a : Int), .int .u8 (b.toNat : Int)]).alloc (Obj.cells #[.int .i64 l, .int .i64 c, .int .u8 (d.toNat : Int)] 23)
  have hY := Blk.new (w.alloc (Obj.cells #[.int .i64 2, .int .i64 (a : Int), .int .u8 (b.toNat : Int)] 23)) 23 #[.int .i64 l, .int .i64 c, .int .u8 (d.toNat : Int)]
  have hbw := ((Below.refl w.heap.size w).alloc (Nat.le_refl _) (Obj.cells #[.int .i64 2, .int .i64 (a : Int), .int .u8 (b.toNat : Int)] 23)).alloc (by simp) (Obj.cells #[.int .i64 l, .int .i64 c, .int .u8 (d.toNat : Int)] 23)
  rw [show (w.alloc (Obj.cells #[.int .i64 2, .int .i64 (a : Int), .int .u8 (b.toNat : Int)] 23)).heap.size = w.heap.size + 1 from by simp] at hY
  generalize (w.alloc (Obj.cells #[.int .i64 2, .int .i64 (a : Int), .int .u8 (b.toNat : Int)] 23)).alloc (Obj.cells #[.int .i64 l, .int .i64 c, .int .u8 (d.toNat : Int)] 23) = W at *
  refine (shifts_any _).mono ?_
  rintro e w1 ⟨rfl, hb1⟩
  replace hX := hX.after hb1
  replace hY := hY.after hb1
  replace hbw := chain hb1 hbw
  clear hb1
  go_wp2_with fail
  refine (CS.out _).mono ?_
  rintro e w2 ⟨rfl, rfl⟩
  have x0 := hX.cell 0
  have x1 := hX.cell 1
  have x2 := hX.cell 2
  have y0 := hY.cell 0
  have y1 := hY.cell 1
  have y2 := hY.cell 2
  go_wp2_with fail
  refine (H3.out _).mono ?_
  rintro e w3 ⟨rfl, hb3⟩
  clear x0 x1 x2 y0 y1 y2
  replace hX := (hX.after hb3).alloc (Obj.cells #[.int .i64 2, .int .i64 (m : Int), .int .u8 (e0.toNat : Int)] 23)
  replace hY := (hY.after hb3).alloc (Obj.cells #[.int .i64 2, .int .i64 (m : Int), .int .u8 (e0.toNat : Int)] 23)
  have hZ := Blk.new w3 23 #[.int .i64 2, .int .i64 (m : Int), .int .u8 (e0.toNat : Int)]
  replace hbw := chain hb3 hbw
  replace hbw := hbw.alloc hbw.size (Obj.cells #[.int .i64 2, .int .i64 (m : Int), .int .u8 (e0.toNat : Int)] 23)
  clear hb3
  have x0 := hX.cell 0
  have x1 := hX.cell 1
  have x2 := hX.cell 2
  have y0 := hY.cell 0
  have y1 := hY.cell 1
  have y2 := hY.cell 2
  go_wp2_with fail
  generalize w3.alloc (Obj.cells #[.int .i64 2, .int .i64 (m : Int), .int .u8 (e0.toNat : Int)] 23) = W3 at *
  refine (H4.out _).mono ?_
  rintro e w4 ⟨rfl, hb4⟩
  clear x0 x1 x2 y0 y1 y2
  replace hX := (hX.after hb4).alloc (Obj.cells #[.int .i64 2, .int .i64 (a : Int), .int .u8 (b.toNat : Int)] 23)
  replace hY := (hY.after hb4).alloc (Obj.cells #[.int .i64 2, .int .i64 (a : Int), .int .u8 (b.toNat : Int)] 23)
  replace hZ := (hZ.after hb4).alloc (Obj.cells #[.int .i64 2, .int .i64 (a : Int), .int .u8 (b.toNat : Int)] 23)
  have hN := Blk.new w4 23 #[.int .i64 2, .int .i64 (a : Int), .int .u8 (b.toNat : Int)]
  replace hbw := chain hb4 hbw
  replace hbw := hbw.alloc hbw.size (Obj.cells #[.int .i64 2, .int .i64 (a : Int), .int .u8 (b.toNat : Int)] 23)
  clear hb4
  have x0 := hX.cell 0
  have x1 := hX.cell 1
  have x2 := hX.cell 2
  have y0 := hY.cell 0
  have y1 := hY.cell 1
  have y2 := hY.cell 2
  have z0 := hZ.cell 0
  have z1 := hZ.cell 1
  have z2 := hZ.cell 2
  have n0 := hN.cell 0
  have n1 := hN.cell 1
  have n2 := hN.cell 2
  go_wp2_with fail
  generalize w4.alloc (Obj.cells #[.int .i64 2, .int .i64 (a : Int), .int .u8 (b.toNat : Int)] 23) = W4 at *
  refine (H5.out _).mono ?_
  rintro e w5 ⟨rfl, hb5⟩
  clear x0 x1 x2 y0 y1 y2 z0 z1 z2 n0 n1 n2
  replace hX := hX.after hb5
  replace hY := hY.after hb5
  replace hZ := hZ.after hb5
  replace hbw := chain hb5 hbw
  clear hb5 hN
  have x0 := hX.cell 0
  have x1 := hX.cell 1
  have x2 := hX.cell 2
  have y0 := hY.cell 0
  have y1 := hY.cell 1
  have y2 := hY.cell 2
  have z0 := hZ.cell 0
  have z1 := hZ.cell 1
  have z2 := hZ.cell 2
  go_wp2_with fail
  go_quiet (fail)
  go_wp2
  go_ret
  exact ⟨by simp, below_drewN hbw _⟩

theorem pastE_zero {n : Int} {x y : Op3} (h : pastE n x y = 0) : chO n x = 0 ∧ chO n y = 0 := by
  unfold pastE at h
  by_cases hx : chO n x = 0
  · rw [if_neg (fun h => h hx)] at h; exact ⟨hx, h⟩
  · rw [if_pos hx] at h; exact absurd h hx
theorem shiftStays_walk (s : ByteArray) (x y : Op3) (f : Bool) (hs : s.size ≤ 140737488351232) (hxo : OkOp x) (hyo : OkOp y) (w : World) :
    Calls Try.prog 3 #[.string s, .agg (cOp x).toArray, .agg (cOp y).toArray, .bool f] w fun e w' => e = .returned (.bool true) ∧ Below w.heap.size w w' := by
  have hc := cut_any s 198 (by decide) hs
  have hz := cut198_size s 198
  generalize s.extract 0 198 = S at *
  by_cases hE : pastE S.size x y = 0
  · obtain ⟨hx, hy⟩ := pastE_zero hE
    have h3 := past_ok S.size x y f hx hy
    have h4 := past_ok S.size x (3, 0, 0) f hx (chO_none (by omega) (by omega))
    rw [pst_none_right] at h4
    have h5 := do_ok S y hy
    obtain ⟨k, a, b⟩ := x
    obtain ⟨_, _, kx⟩ := chO_ok hx
    simp only at kx
    rcases kx with ⟨rfl, g1, g2, g3⟩ | ⟨rfl, g1, g2, rfl⟩ | ⟨rfl, rfl, rfl⟩
    · obtain ⟨z, hz1, hz2, hz3⟩ := stays_put (n := S.size) (a := a) (b := b) (f := f) hy
      rw [hz1] at h3
      obtain ⟨l, c, d⟩ := y
      exact stays_one s S a l c z b d f hc h3 h4 (by omega) hz2 hz3 w
    · obtain ⟨a, rfl⟩ : ∃ m : Nat, a = m := ⟨a.toNat, by omega⟩
      rcases stays_take (s := S.data.toList) (a := a) (f := f) (by show a < S.size; omega) hy with ⟨h6, h7, h8⟩ | ⟨m, h6, h7, h8⟩
      · rw [h6] at h3
        obtain ⟨l, c, d⟩ := y
        simp only at h7 h8
        subst h7
        subst h8
        exact stays_gone s S a 0 d _ f hc h3 h4 h5 w
      · rw [h6] at h3
        have hm : m < (tb (doO S.data.toList y)).size := h7
        have ha : a < S.size := by omega
        have he : (tb (doO S.data.toList y))[m] = S[a] := by
          rw [← getD_bytes _ m hm, ← getD_bytes _ a ha]; exact h8
        generalize tb (doO S.data.toList y) = t at *
        obtain ⟨l, c, d⟩ := y
        exact stays_two s S a l c 0 d 0 m t f hc h3 h4 h5 ha hm he w
    · rw [pst_none_left] at h3
      obtain ⟨l, c, d⟩ := y
      exact stays_three s S 0 l c 0 d f hc h3 h4 w
  · have h3 := past_no S.size x y f hE
    obtain ⟨En, z, h4⟩ : ∃ (En : Int) (z : Op3), ∀ w, Calls Try.prog 17 #[.int .i64 S.size, .agg (cOp x).toArray, .agg #[.int .i64 3, .int .i64 0, .int .u8 0], .bool f] w fun e w' => e = .returned (.tuple #[.agg (cOp z).toArray, .int .i64 En]) ∧ Below w.heap.size w w' := by
      by_cases h : pastE S.size x (3, 0, 0) = 0
      · obtain ⟨hx, hy⟩ := pastE_zero h
        exact ⟨0, _, past_ok S.size x (3, 0, 0) f hx hy⟩
      · exact ⟨_, (0, 0, 0), past_no S.size x (3, 0, 0) f h⟩
    obtain ⟨k, a, b⟩ := x
    obtain ⟨l, c, d⟩ := y
    obtain ⟨nk, na, nb⟩ := z
    exact stays_err s S k a l c b d _ En nk na nb f hc h3 h4 hE w

end Go.Proofs.Ytpeplkjidljpmaa
