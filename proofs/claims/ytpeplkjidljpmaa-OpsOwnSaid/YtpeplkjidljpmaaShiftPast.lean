/- The walk of shift.Past. -/
import Derived.Test.YtpeplkjidljpmaaShiftWalk
namespace Go.Proofs.Ytpeplkjidljpmaa
open Go.RowKit
set_option linter.unusedVariables false

set_option maxHeartbeats 4000000 in
theorem past_3x (n a c l : Int) (b d : UInt8) (f : Bool) (hx : chO n (3, a, b) = 0) (hy : chO n (l, c, d) = 0) (hb : 0 ≤ a ∧ a ≤ 200) (w : World) :
    Calls Try.prog 17 #[.int .i64 n, .agg #[.int .i64 3, .int .i64 a, .int .u8 (b.toNat : Int)], .agg #[.int .i64 l, .int .i64 c, .int .u8 (d.toNat : Int)], .bool f] w fun e w' => e = .returned (.tuple #[.agg #[.int .i64 3, .int .i64 a, .int .u8 (b.toNat : Int)], .int .i64 0]) ∧ Below w.heap.size w w' := by
  have H1 := Lib.hid (fun w => by have := checkO_any n 3 a b w; rw [hx] at this; exact this)
  have H2 := Lib.hid (fun w => by have := checkO_any n l c d w; rw [hy] at this; exact this)
  clear hx hy
  go_enter Try.func17, Try.ntmps17
  go_wp2_with fail
  have hX := ((Blk.new w 23 #[.int .i64 3, .int .i64 a, .int .u8 (b.toNat : Int)]).alloc (Obj.cells #[.int .i64 l, .int .i64 c, .int .u8 (d.toNat : Int)] 23)).alloc (Obj.cells #[.int .i64 0, .int .i64 0, .int .u8 0] 23)
  have hY := (Blk.new (w.alloc (Obj.cells #[.int .i64 3, .int .i64 a, .int .u8 (b.toNat : Int)] 23)) 23 #[.int .i64 l, .int .i64 c, .int .u8 (d.toNat : Int)]).alloc (Obj.cells #[.int .i64 0, .int .i64 0, .int .u8 0] 23)
  have hZ := Blk.new ((w.alloc (Obj.cells #[.int .i64 3, .int .i64 a, .int .u8 (b.toNat : Int)] 23)).alloc (Obj.cells #[.int .i64 l, .int .i64 c, .int .u8 (d.toNat : Int)] 23)) 23 #[.int .i64 0, .int .i64 0, .int .u8 0]
  have hbW := (((Below.refl w.heap.size w).alloc (Nat.le_refl _) (Obj.cells #[.int .i64 3, .int .i64 a, .int .u8 (b.toNat : Int)] 23)).alloc (by simp) (Obj.cells #[.int .i64 l, .int .i64 c, .int .u8 (d.toNat : Int)] 23)).alloc (by simp; omega) (Obj.cells #[.int .i64 0, .int .i64 0, .int .u8 0] 23)
  rw [show (w.alloc (Obj.cells #[.int .i64 3, .int .i64 a, .int .u8 (b.toNat : Int)] 23)).heap.size = w.heap.size + 1 from by simp] at hY
  rw [show ((w.alloc (Obj.cells #[.int .i64 3, .int .i64 a, .int .u8 (b.toNat : Int)] 23)).alloc (Obj.cells #[.int .i64 l, .int .i64 c, .int .u8 (d.toNat : Int)] 23)).heap.size = w.heap.size + 1 + 1 from by simp] at hZ
  generalize ((w.alloc (Obj.cells #[.int .i64 3, .int .i64 a, .int .u8 (b.toNat : Int)] 23)).alloc (Obj.cells #[.int .i64 l, .int .i64 c, .int .u8 (d.toNat : Int)] 23)).alloc (Obj.cells #[.int .i64 0, .int .i64 0, .int .u8 0] 23) = W at *
  refine (H1.out _).mono ?_
  rintro e w1 ⟨rfl, hb1⟩
  have hX1 := hX.after hb1
  have hY1 := hY.after hb1
  have hZ1 := hZ.after hb1
  have hbw1 := chain hb1 hbW
  clear hX hY hZ hbW hb1
  have y0 := hY1.cell 0
  have y1 := hY1.cell 1
  have y2 := hY1.cell 2
  go_wp2_with fail
  refine (H2.out _).mono ?_
  rintro e w2 ⟨rfl, hb2⟩
  have hX2 := hX1.after hb2
  have hY2 := hY1.after hb2
  have hZ2 := hZ1.after hb2
  have hbw2 := chain hb2 hbw1
  clear hX1 hY1 hZ1 hbw1 hb2 y0 y1 y2
  have x0 := hX2.cell 0
  have x1 := hX2.cell 1
  have x2 := hX2.cell 2
  have y0 := hY2.cell 0
  have y1 := hY2.cell 1
  have y2 := hY2.cell 2
  have z0 := hZ2.cell 0
  have z1 := hZ2.cell 1
  have z2 := hZ2.cell 2
  have fx := hX2.frozen 1
  have f0 := hZ2.frozen 0
  have f1 := hZ2.frozen 1
  have f2 := hZ2.frozen 2
  go_wp2
  refine bodyPost_ret (v := .tuple #[.agg #[.int .i64 3, .int .i64 a, .int .u8 (b.toNat : Int)], .int .i64 0]) (by simp [results, Try.results17, go_sem, z0, z1, z2]) rfl ⟨rfl, ?_⟩
  exact ((hbw2.setCell (by show _ ≤ w.heap.size + 1 + 1; omega) _).setCell (by show _ ≤ w.heap.size + 1 + 1; omega) _).setCell (by show _ ≤ w.heap.size + 1 + 1; omega) _

set_option maxHeartbeats 4000000 in
theorem past_x3 (n a c k : Int) (b d : UInt8) (f : Bool) (hx : chO n (k, a, b) = 0) (hy : chO n (3, c, d) = 0) (hb : 0 ≤ a ∧ a ≤ 200) (h3 : (k == 3) = false) (w : World) :
    Calls Try.prog 17 #[.int .i64 n, .agg #[.int .i64 k, .int .i64 a, .int .u8 (b.toNat : Int)], .agg #[.int .i64 3, .int .i64 c, .int .u8 (d.toNat : Int)], .bool f] w fun e w' => e = .returned (.tuple #[.agg #[.int .i64 k, .int .i64 a, .int .u8 (b.toNat : Int)], .int .i64 0]) ∧ Below w.heap.size w w' := by
  have H1 := Lib.hid (fun w => by have := checkO_any n k a b w; rw [hx] at this; exact this)
  have H2 := Lib.hid (fun w => by have := checkO_any n 3 c d w; rw [hy] at this; exact this)
  clear hx hy
  go_enter Try.func17, Try.ntmps17
  go_wp2_with fail
  have hX := ((Blk.new w 23 #[.int .i64 k, .int .i64 a, .int .u8 (b.toNat : Int)]).alloc (Obj.cells #[.int .i64 3, .int .i64 c, .int .u8 (d.toNat : Int)] 23)).alloc (Obj.cells #[.int .i64 0, .int .i64 0, .int .u8 0] 23)
  have hY := (Blk.new (w.alloc (Obj.cells #[.int .i64 k, .int .i64 a, .int .u8 (b.toNat : Int)] 23)) 23 #[.int .i64 3, .int .i64 c, .int .u8 (d.toNat : Int)]).alloc (Obj.cells #[.int .i64 0, .int .i64 0, .int .u8 0] 23)
  have hZ := Blk.new ((w.alloc (Obj.cells #[.int .i64 k, .int .i64 a, .int .u8 (b.toNat : Int)] 23)).alloc (Obj.cells #[.int .i64 3, .int .i64 c, .int .u8 (d.toNat : Int)] 23)) 23 #[.int .i64 0, .int .i64 0, .int .u8 0]
  have hbW := (((Below.refl w.heap.size w).alloc (Nat.le_refl _) (Obj.cells #[.int .i64 k, .int .i64 a, .int .u8 (b.toNat : Int)] 23)).alloc (by simp) (Obj.cells #[.int .i64 3, .int .i64 c, .int .u8 (d.toNat : Int)] 23)).alloc (by simp; omega) (Obj.cells #[.int .i64 0, .int .i64 0, .int .u8 0] 23)
  rw [show (w.alloc (Obj.cells #[.int .i64 k, .int .i64 a, .int .u8 (b.toNat : Int)] 23)).heap.size = w.heap.size + 1 from by simp] at hY
  rw [show ((w.alloc (Obj.cells #[.int .i64 k, .int .i64 a, .int .u8 (b.toNat : Int)] 23)).alloc (Obj.cells #[.int .i64 3, .int .i64 c, .int .u8 (d.toNat : Int)] 23)).heap.size = w.heap.size + 1 + 1 from by simp] at hZ
  generalize ((w.alloc (Obj.cells #[.int .i64 k, .int .i64 a, .int .u8 (b.toNat : Int)] 23)).alloc (Obj.cells #[.int .i64 3, .int .i64 c, .int .u8 (d.toNat : Int)] 23)).alloc (Obj.cells #[.int .i64 0, .int .i64 0, .int .u8 0] 23) = W at *
  refine (H1.out _).mono ?_
  rintro e w1 ⟨rfl, hb1⟩
  have hX1 := hX.after hb1
  have hY1 := hY.after hb1
  have hZ1 := hZ.after hb1
  have hbw1 := chain hb1 hbW
  clear hX hY hZ hbW hb1
  have y0 := hY1.cell 0
  have y1 := hY1.cell 1
  have y2 := hY1.cell 2
  go_wp2_with fail
  refine (H2.out _).mono ?_
  rintro e w2 ⟨rfl, hb2⟩
  have hX2 := hX1.after hb2
  have hY2 := hY1.after hb2
  have hZ2 := hZ1.after hb2
  have hbw2 := chain hb2 hbw1
  clear hX1 hY1 hZ1 hbw1 hb2 y0 y1 y2
  have x0 := hX2.cell 0
  have x1 := hX2.cell 1
  have x2 := hX2.cell 2
  have y0 := hY2.cell 0
  have y1 := hY2.cell 1
  have y2 := hY2.cell 2
  have z0 := hZ2.cell 0
  have z1 := hZ2.cell 1
  have z2 := hZ2.cell 2
  have fx := hX2.frozen 1
  have f0 := hZ2.frozen 0
  have f1 := hZ2.frozen 1
  have f2 := hZ2.frozen 2
  go_wp2
  refine bodyPost_ret (v := .tuple #[.agg #[.int .i64 k, .int .i64 a, .int .u8 (b.toNat : Int)], .int .i64 0]) (by simp [results, Try.results17, go_sem, z0, z1, z2]) rfl ⟨rfl, ?_⟩
  exact ((hbw2.setCell (by show _ ≤ w.heap.size + 1 + 1; omega) _).setCell (by show _ ≤ w.heap.size + 1 + 1; omega) _).setCell (by show _ ≤ w.heap.size + 1 + 1; omega) _

set_option maxHeartbeats 4000000 in
theorem past_11lt (n a c : Int) (b d : UInt8) (f : Bool) (hx : chO n (1, a, b) = 0) (hy : chO n (1, c, d) = 0) (hb : 0 ≤ a ∧ a ≤ 200) (h : c < a) (w : World) :
    Calls Try.prog 17 #[.int .i64 n, .agg #[.int .i64 1, .int .i64 a, .int .u8 (b.toNat : Int)], .agg #[.int .i64 1, .int .i64 c, .int .u8 (d.toNat : Int)], .bool f] w fun e w' => e = .returned (.tuple #[.agg #[.int .i64 1, .int .i64 (a + 1), .int .u8 (b.toNat : Int)], .int .i64 0]) ∧ Below w.heap.size w w' := by
  have H1 := Lib.hid (fun w => by have := checkO_any n 1 a b w; rw [hx] at this; exact this)
  have H2 := Lib.hid (fun w => by have := checkO_any n 1 c d w; rw [hy] at this; exact this)
  have q2 : decide (c < a) = true := decide_eq_true h
  have q3 : (a == c) = false := by rw [beq_eq_false_iff_ne]; omega
  have q4 : (c == a) = false := by rw [beq_eq_false_iff_ne]; omega
  clear hx hy
  go_enter Try.func17, Try.ntmps17
  go_wp2_with fail
  have hX := ((Blk.new w 23 #[.int .i64 1, .int .i64 a, .int .u8 (b.toNat : Int)]).alloc (Obj.cells #[.int .i64 1, .int .i64 c, .int .u8 (d.toNat : Int)] 23)).alloc (Obj.cells #[.int .i64 0, .int .i64 0, .int .u8 0] 23)
  have hY := (Blk.new (w.alloc (Obj.cells #[.int .i64 1, .int .i64 a, .int .u8 (b.toNat : Int)] 23)) 23 #[.int .i64 1, .int .i64 c, .int .u8 (d.toNat : Int)]).alloc (Obj.cells #[.int .i64 0, .int .i64 0, .int .u8 0] 23)
  have hZ := Blk.new ((w.alloc (Obj.cells #[.int .i64 1, .int .i64 a, .int .u8 (b.toNat : Int)] 23)).alloc (Obj.cells #[.int .i64 1, .int .i64 c, .int .u8 (d.toNat : Int)] 23)) 23 #[.int .i64 0, .int .i64 0, .int .u8 0]
  have hbW := (((Below.refl w.heap.size w).alloc (Nat.le_refl _) (Obj.cells #[.int .i64 1, .int .i64 a, .int .u8 (b.toNat : Int)] 23)).alloc (by simp) (Obj.cells #[.int .i64 1, .int .i64 c, .int .u8 (d.toNat : Int)] 23)).alloc (by simp; omega) (Obj.cells #[.int .i64 0, .int .i64 0, .int .u8 0] 23)
  rw [show (w.alloc (Obj.cells #[.int .i64 1, .int .i64 a, .int .u8 (b.toNat : Int)] 23)).heap.size = w.heap.size + 1 from by simp] at hY
  rw [show ((w.alloc (Obj.cells #[.int .i64 1, .int .i64 a, .int .u8 (b.toNat : Int)] 23)).alloc (Obj.cells #[.int .i64 1, .int .i64 c, .int .u8 (d.toNat : Int)] 23)).heap.size = w.heap.size + 1 + 1 from by simp] at hZ
  generalize ((w.alloc (Obj.cells #[.int .i64 1, .int .i64 a, .int .u8 (b.toNat : Int)] 23)).alloc (Obj.cells #[.int .i64 1, .int .i64 c, .int .u8 (d.toNat : Int)] 23)).alloc (Obj.cells #[.int .i64 0, .int .i64 0, .int .u8 0] 23) = W at *
  refine (H1.out _).mono ?_
  rintro e w1 ⟨rfl, hb1⟩
  have hX1 := hX.after hb1
  have hY1 := hY.after hb1
  have hZ1 := hZ.after hb1
  have hbw1 := chain hb1 hbW
  clear hX hY hZ hbW hb1
  have y0 := hY1.cell 0
  have y1 := hY1.cell 1
  have y2 := hY1.cell 2
  go_wp2_with fail
  refine (H2.out _).mono ?_
  rintro e w2 ⟨rfl, hb2⟩
  have hX2 := hX1.after hb2
  have hY2 := hY1.after hb2
  have hZ2 := hZ1.after hb2
  have hbw2 := chain hb2 hbw1
  clear hX1 hY1 hZ1 hbw1 hb2 y0 y1 y2
  have x0 := hX2.cell 0
  have x1 := hX2.cell 1
  have x2 := hX2.cell 2
  have y0 := hY2.cell 0
  have y1 := hY2.cell 1
  have y2 := hY2.cell 2
  have z0 := hZ2.cell 0
  have z1 := hZ2.cell 1
  have z2 := hZ2.cell 2
  have fx := hX2.frozen 1
  have f0 := hZ2.frozen 0
  have f1 := hZ2.frozen 1
  have f2 := hZ2.frozen 2
  go_wp2
  refine bodyPost_ret (v := .tuple #[.agg #[.int .i64 1, .int .i64 (a + 1), .int .u8 (b.toNat : Int)], .int .i64 0]) (by simp [results, Try.results17, go_sem, z0, z1, z2]) rfl ⟨rfl, ?_⟩
  exact (((hbw2.setCell (Nat.le_refl _) _).setCell (by show _ ≤ w.heap.size + 1 + 1; omega) _).setCell (by show _ ≤ w.heap.size + 1 + 1; omega) _).setCell (by show _ ≤ w.heap.size + 1 + 1; omega) _

set_option maxHeartbeats 4000000 in
theorem past_11eqf (n a : Int) (b d : UInt8) (hx : chO n (1, a, b) = 0) (hy : chO n (1, a, d) = 0) (hb : 0 ≤ a ∧ a ≤ 200) (w : World) :
    Calls Try.prog 17 #[.int .i64 n, .agg #[.int .i64 1, .int .i64 a, .int .u8 (b.toNat : Int)], .agg #[.int .i64 1, .int .i64 a, .int .u8 (d.toNat : Int)], .bool false] w fun e w' => e = .returned (.tuple #[.agg #[.int .i64 1, .int .i64 (a + 1), .int .u8 (b.toNat : Int)], .int .i64 0]) ∧ Below w.heap.size w w' := by
  have H1 := Lib.hid (fun w => by have := checkO_any n 1 a b w; rw [hx] at this; exact this)
  have H2 := Lib.hid (fun w => by have := checkO_any n 1 a d w; rw [hy] at this; exact this)
  have q2 : decide (a < a) = false := decide_eq_false (by omega)
  clear hx hy
  go_enter Try.func17, Try.ntmps17
  go_wp2_with fail
  have hX := ((Blk.new w 23 #[.int .i64 1, .int .i64 a, .int .u8 (b.toNat : Int)]).alloc (Obj.cells #[.int .i64 1, .int .i64 a, .int .u8 (d.toNat : Int)] 23)).alloc (Obj.cells #[.int .i64 0, .int .i64 0, .int .u8 0] 23)
  have hY := (Blk.new (w.alloc (Obj.cells #[.int .i64 1, .int .i64 a, .int .u8 (b.toNat : Int)] 23)) 23 #[.int .i64 1, .int .i64 a, .int .u8 (d.toNat : Int)]).alloc (Obj.cells #[.int .i64 0, .int .i64 0, .int .u8 0] 23)
  have hZ := Blk.new ((w.alloc (Obj.cells #[.int .i64 1, .int .i64 a, .int .u8 (b.toNat : Int)] 23)).alloc (Obj.cells #[.int .i64 1, .int .i64 a, .int .u8 (d.toNat : Int)] 23)) 23 #[.int .i64 0, .int .i64 0, .int .u8 0]
  have hbW := (((Below.refl w.heap.size w).alloc (Nat.le_refl _) (Obj.cells #[.int .i64 1, .int .i64 a, .int .u8 (b.toNat : Int)] 23)).alloc (by simp) (Obj.cells #[.int .i64 1, .int .i64 a, .int .u8 (d.toNat : Int)] 23)).alloc (by simp; omega) (Obj.cells #[.int .i64 0, .int .i64 0, .int .u8 0] 23)
  rw [show (w.alloc (Obj.cells #[.int .i64 1, .int .i64 a, .int .u8 (b.toNat : Int)] 23)).heap.size = w.heap.size + 1 from by simp] at hY
  rw [show ((w.alloc (Obj.cells #[.int .i64 1, .int .i64 a, .int .u8 (b.toNat : Int)] 23)).alloc (Obj.cells #[.int .i64 1, .int .i64 a, .int .u8 (d.toNat : Int)] 23)).heap.size = w.heap.size + 1 + 1 from by simp] at hZ
  generalize ((w.alloc (Obj.cells #[.int .i64 1, .int .i64 a, .int .u8 (b.toNat : Int)] 23)).alloc (Obj.cells #[.int .i64 1, .int .i64 a, .int .u8 (d.toNat : Int)] 23)).alloc (Obj.cells #[.int .i64 0, .int .i64 0, .int .u8 0] 23) = W at *
  refine (H1.out _).mono ?_
  rintro e w1 ⟨rfl, hb1⟩
  have hX1 := hX.after hb1
  have hY1 := hY.after hb1
  have hZ1 := hZ.after hb1
  have hbw1 := chain hb1 hbW
  clear hX hY hZ hbW hb1
  have y0 := hY1.cell 0
  have y1 := hY1.cell 1
  have y2 := hY1.cell 2
  go_wp2_with fail
  refine (H2.out _).mono ?_
  rintro e w2 ⟨rfl, hb2⟩
  have hX2 := hX1.after hb2
  have hY2 := hY1.after hb2
  have hZ2 := hZ1.after hb2
  have hbw2 := chain hb2 hbw1
  clear hX1 hY1 hZ1 hbw1 hb2 y0 y1 y2
  have x0 := hX2.cell 0
  have x1 := hX2.cell 1
  have x2 := hX2.cell 2
  have y0 := hY2.cell 0
  have y1 := hY2.cell 1
  have y2 := hY2.cell 2
  have z0 := hZ2.cell 0
  have z1 := hZ2.cell 1
  have z2 := hZ2.cell 2
  have fx := hX2.frozen 1
  have f0 := hZ2.frozen 0
  have f1 := hZ2.frozen 1
  have f2 := hZ2.frozen 2
  go_wp2
  refine bodyPost_ret (v := .tuple #[.agg #[.int .i64 1, .int .i64 (a + 1), .int .u8 (b.toNat : Int)], .int .i64 0]) (by simp [results, Try.results17, go_sem, z0, z1, z2]) rfl ⟨rfl, ?_⟩
  exact (((hbw2.setCell (Nat.le_refl _) _).setCell (by show _ ≤ w.heap.size + 1 + 1; omega) _).setCell (by show _ ≤ w.heap.size + 1 + 1; omega) _).setCell (by show _ ≤ w.heap.size + 1 + 1; omega) _

set_option maxHeartbeats 4000000 in
theorem past_11eqt (n a : Int) (b d : UInt8) (hx : chO n (1, a, b) = 0) (hy : chO n (1, a, d) = 0) (hb : 0 ≤ a ∧ a ≤ 200) (w : World) :
    Calls Try.prog 17 #[.int .i64 n, .agg #[.int .i64 1, .int .i64 a, .int .u8 (b.toNat : Int)], .agg #[.int .i64 1, .int .i64 a, .int .u8 (d.toNat : Int)], .bool true] w fun e w' => e = .returned (.tuple #[.agg #[.int .i64 1, .int .i64 a, .int .u8 (b.toNat : Int)], .int .i64 0]) ∧ Below w.heap.size w w' := by
  have H1 := Lib.hid (fun w => by have := checkO_any n 1 a b w; rw [hx] at this; exact this)
  have H2 := Lib.hid (fun w => by have := checkO_any n 1 a d w; rw [hy] at this; exact this)
  have q2 : decide (a < a) = false := decide_eq_false (by omega)
  clear hx hy
  go_enter Try.func17, Try.ntmps17
  go_wp2_with fail
  have hX := ((Blk.new w 23 #[.int .i64 1, .int .i64 a, .int .u8 (b.toNat : Int)]).alloc (Obj.cells #[.int .i64 1, .int .i64 a, .int .u8 (d.toNat : Int)] 23)).alloc (Obj.cells #[.int .i64 0, .int .i64 0, .int .u8 0] 23)
  have hY := (Blk.new (w.alloc (Obj.cells #[.int .i64 1, .int .i64 a, .int .u8 (b.toNat : Int)] 23)) 23 #[.int .i64 1, .int .i64 a, .int .u8 (d.toNat : Int)]).alloc (Obj.cells #[.int .i64 0, .int .i64 0, .int .u8 0] 23)
  have hZ := Blk.new ((w.alloc (Obj.cells #[.int .i64 1, .int .i64 a, .int .u8 (b.toNat : Int)] 23)).alloc (Obj.cells #[.int .i64 1, .int .i64 a, .int .u8 (d.toNat : Int)] 23)) 23 #[.int .i64 0, .int .i64 0, .int .u8 0]
  have hbW := (((Below.refl w.heap.size w).alloc (Nat.le_refl _) (Obj.cells #[.int .i64 1, .int .i64 a, .int .u8 (b.toNat : Int)] 23)).alloc (by simp) (Obj.cells #[.int .i64 1, .int .i64 a, .int .u8 (d.toNat : Int)] 23)).alloc (by simp; omega) (Obj.cells #[.int .i64 0, .int .i64 0, .int .u8 0] 23)
  rw [show (w.alloc (Obj.cells #[.int .i64 1, .int .i64 a, .int .u8 (b.toNat : Int)] 23)).heap.size = w.heap.size + 1 from by simp] at hY
  rw [show ((w.alloc (Obj.cells #[.int .i64 1, .int .i64 a, .int .u8 (b.toNat : Int)] 23)).alloc (Obj.cells #[.int .i64 1, .int .i64 a, .int .u8 (d.toNat : Int)] 23)).heap.size = w.heap.size + 1 + 1 from by simp] at hZ
  generalize ((w.alloc (Obj.cells #[.int .i64 1, .int .i64 a, .int .u8 (b.toNat : Int)] 23)).alloc (Obj.cells #[.int .i64 1, .int .i64 a, .int .u8 (d.toNat : Int)] 23)).alloc (Obj.cells #[.int .i64 0, .int .i64 0, .int .u8 0] 23) = W at *
  refine (H1.out _).mono ?_
  rintro e w1 ⟨rfl, hb1⟩
  have hX1 := hX.after hb1
  have hY1 := hY.after hb1
  have hZ1 := hZ.after hb1
  have hbw1 := chain hb1 hbW
  clear hX hY hZ hbW hb1
  have y0 := hY1.cell 0
  have y1 := hY1.cell 1
  have y2 := hY1.cell 2
  go_wp2_with fail
  refine (H2.out _).mono ?_
  rintro e w2 ⟨rfl, hb2⟩
  have hX2 := hX1.after hb2
  have hY2 := hY1.after hb2
  have hZ2 := hZ1.after hb2
  have hbw2 := chain hb2 hbw1
  clear hX1 hY1 hZ1 hbw1 hb2 y0 y1 y2
  have x0 := hX2.cell 0
  have x1 := hX2.cell 1
  have x2 := hX2.cell 2
  have y0 := hY2.cell 0
  have y1 := hY2.cell 1
  have y2 := hY2.cell 2
  have z0 := hZ2.cell 0
  have z1 := hZ2.cell 1
  have z2 := hZ2.cell 2
  have fx := hX2.frozen 1
  have f0 := hZ2.frozen 0
  have f1 := hZ2.frozen 1
  have f2 := hZ2.frozen 2
  go_wp2
  refine bodyPost_ret (v := .tuple #[.agg #[.int .i64 1, .int .i64 a, .int .u8 (b.toNat : Int)], .int .i64 0]) (by simp [results, Try.results17, go_sem, z0, z1, z2]) rfl ⟨rfl, ?_⟩
  exact ((hbw2.setCell (by show _ ≤ w.heap.size + 1 + 1; omega) _).setCell (by show _ ≤ w.heap.size + 1 + 1; omega) _).setCell (by show _ ≤ w.heap.size + 1 + 1; omega) _

set_option maxHeartbeats 4000000 in
theorem past_11gt (n a c : Int) (b d : UInt8) (f : Bool) (hx : chO n (1, a, b) = 0) (hy : chO n (1, c, d) = 0) (hb : 0 ≤ a ∧ a ≤ 200) (h : a < c) (w : World) :
    Calls Try.prog 17 #[.int .i64 n, .agg #[.int .i64 1, .int .i64 a, .int .u8 (b.toNat : Int)], .agg #[.int .i64 1, .int .i64 c, .int .u8 (d.toNat : Int)], .bool f] w fun e w' => e = .returned (.tuple #[.agg #[.int .i64 1, .int .i64 a, .int .u8 (b.toNat : Int)], .int .i64 0]) ∧ Below w.heap.size w w' := by
  have H1 := Lib.hid (fun w => by have := checkO_any n 1 a b w; rw [hx] at this; exact this)
  have H2 := Lib.hid (fun w => by have := checkO_any n 1 c d w; rw [hy] at this; exact this)
  have q2 : decide (c < a) = false := decide_eq_false (by omega)
  have q3 : (a == c) = false := by rw [beq_eq_false_iff_ne]; omega
  have q4 : (c == a) = false := by rw [beq_eq_false_iff_ne]; omega
  clear hx hy
  go_enter Try.func17, Try.ntmps17
  go_wp2_with fail
  have hX := ((Blk.new w 23 #[.int .i64 1, .int .i64 a, .int .u8 (b.toNat : Int)]).alloc (Obj.cells #[.int .i64 1, .int .i64 c, .int .u8 (d.toNat : Int)] 23)).alloc (Obj.cells #[.int .i64 0, .int .i64 0, .int .u8 0] 23)
  have hY := (Blk.new (w.alloc (Obj.cells #[.int .i64 1, .int .i64 a, .int .u8 (b.toNat : Int)] 23)) 23 #[.int .i64 1, .int .i64 c, .int .u8 (d.toNat : Int)]).alloc (Obj.cells #[.int .i64 0, .int .i64 0, .int .u8 0] 23)
  have hZ := Blk.new ((w.alloc (Obj.cells #[.int .i64 1, .int .i64 a, .int .u8 (b.toNat : Int)] 23)).alloc (Obj.cells #[.int .i64 1, .int .i64 c, .int .u8 (d.toNat : Int)] 23)) 23 #[.int .i64 0, .int .i64 0, .int .u8 0]
  have hbW := (((Below.refl w.heap.size w).alloc (Nat.le_refl _) (Obj.cells #[.int .i64 1, .int .i64 a, .int .u8 (b.toNat : Int)] 23)).alloc (by simp) (Obj.cells #[.int .i64 1, .int .i64 c, .int .u8 (d.toNat : Int)] 23)).alloc (by simp; omega) (Obj.cells #[.int .i64 0, .int .i64 0, .int .u8 0] 23)
  rw [show (w.alloc (Obj.cells #[.int .i64 1, .int .i64 a, .int .u8 (b.toNat : Int)] 23)).heap.size = w.heap.size + 1 from by simp] at hY
  rw [show ((w.alloc (Obj.cells #[.int .i64 1, .int .i64 a, .int .u8 (b.toNat : Int)] 23)).alloc (Obj.cells #[.int .i64 1, .int .i64 c, .int .u8 (d.toNat : Int)] 23)).heap.size = w.heap.size + 1 + 1 from by simp] at hZ
  generalize ((w.alloc (Obj.cells #[.int .i64 1, .int .i64 a, .int .u8 (b.toNat : Int)] 23)).alloc (Obj.cells #[.int .i64 1, .int .i64 c, .int .u8 (d.toNat : Int)] 23)).alloc (Obj.cells #[.int .i64 0, .int .i64 0, .int .u8 0] 23) = W at *
  refine (H1.out _).mono ?_
  rintro e w1 ⟨rfl, hb1⟩
  have hX1 := hX.after hb1
  have hY1 := hY.after hb1
  have hZ1 := hZ.after hb1
  have hbw1 := chain hb1 hbW
  clear hX hY hZ hbW hb1
  have y0 := hY1.cell 0
  have y1 := hY1.cell 1
  have y2 := hY1.cell 2
  go_wp2_with fail
  refine (H2.out _).mono ?_
  rintro e w2 ⟨rfl, hb2⟩
  have hX2 := hX1.after hb2
  have hY2 := hY1.after hb2
  have hZ2 := hZ1.after hb2
  have hbw2 := chain hb2 hbw1
  clear hX1 hY1 hZ1 hbw1 hb2 y0 y1 y2
  have x0 := hX2.cell 0
  have x1 := hX2.cell 1
  have x2 := hX2.cell 2
  have y0 := hY2.cell 0
  have y1 := hY2.cell 1
  have y2 := hY2.cell 2
  have z0 := hZ2.cell 0
  have z1 := hZ2.cell 1
  have z2 := hZ2.cell 2
  have fx := hX2.frozen 1
  have f0 := hZ2.frozen 0
  have f1 := hZ2.frozen 1
  have f2 := hZ2.frozen 2
  go_wp2
  refine bodyPost_ret (v := .tuple #[.agg #[.int .i64 1, .int .i64 a, .int .u8 (b.toNat : Int)], .int .i64 0]) (by simp [results, Try.results17, go_sem, z0, z1, z2]) rfl ⟨rfl, ?_⟩
  exact ((hbw2.setCell (by show _ ≤ w.heap.size + 1 + 1; omega) _).setCell (by show _ ≤ w.heap.size + 1 + 1; omega) _).setCell (by show _ ≤ w.heap.size + 1 + 1; omega) _

set_option maxHeartbeats 4000000 in
theorem past_21lt (n a c : Int) (b d : UInt8) (f : Bool) (hx : chO n (2, a, b) = 0) (hy : chO n (1, c, d) = 0) (hb : 0 ≤ a ∧ a ≤ 200) (h : c < a) (w : World) :
    Calls Try.prog 17 #[.int .i64 n, .agg #[.int .i64 2, .int .i64 a, .int .u8 (b.toNat : Int)], .agg #[.int .i64 1, .int .i64 c, .int .u8 (d.toNat : Int)], .bool f] w fun e w' => e = .returned (.tuple #[.agg #[.int .i64 2, .int .i64 (a + 1), .int .u8 (b.toNat : Int)], .int .i64 0]) ∧ Below w.heap.size w w' := by
  have H1 := Lib.hid (fun w => by have := checkO_any n 2 a b w; rw [hx] at this; exact this)
  have H2 := Lib.hid (fun w => by have := checkO_any n 1 c d w; rw [hy] at this; exact this)
  have q2 : decide (c < a) = true := decide_eq_true h
  have q3 : (a == c) = false := by rw [beq_eq_false_iff_ne]; omega
  have q4 : (c == a) = false := by rw [beq_eq_false_iff_ne]; omega
  clear hx hy
  go_enter Try.func17, Try.ntmps17
  go_wp2_with fail
  have hX := ((Blk.new w 23 #[.int .i64 2, .int .i64 a, .int .u8 (b.toNat : Int)]).alloc (Obj.cells #[.int .i64 1, .int .i64 c, .int .u8 (d.toNat : Int)] 23)).alloc (Obj.cells #[.int .i64 0, .int .i64 0, .int .u8 0] 23)
  have hY := (Blk.new (w.alloc (Obj.cells #[.int .i64 2, .int .i64 a, .int .u8 (b.toNat : Int)] 23)) 23 #[.int .i64 1, .int .i64 c, .int .u8 (d.toNat : Int)]).alloc (Obj.cells #[.int .i64 0, .int .i64 0, .int .u8 0] 23)
  have hZ := Blk.new ((w.alloc (Obj.cells #[.int .i64 2, .int .i64 a, .int .u8 (b.toNat : Int)] 23)).alloc (Obj.cells #[.int .i64 1, .int .i64 c, .int .u8 (d.toNat : Int)] 23)) 23 #[.int .i64 0, .int .i64 0, .int .u8 0]
  have hbW := (((Below.refl w.heap.size w).alloc (Nat.le_refl _) (Obj.cells #[.int .i64 2, .int .i64 a, .int .u8 (b.toNat : Int)] 23)).alloc (by simp) (Obj.cells #[.int .i64 1, .int .i64 c, .int .u8 (d.toNat : Int)] 23)).alloc (by simp; omega) (Obj.cells #[.int .i64 0, .int .i64 0, .int .u8 0] 23)
  rw [show (w.alloc (Obj.cells #[.int .i64 2, .int .i64 a, .int .u8 (b.toNat : Int)] 23)).heap.size = w.heap.size + 1 from by simp] at hY
  rw [show ((w.alloc (Obj.cells #[.int .i64 2, .int .i64 a, .int .u8 (b.toNat : Int)] 23)).alloc (Obj.cells #[.int .i64 1, .int .i64 c, .int .u8 (d.toNat : Int)] 23)).heap.size = w.heap.size + 1 + 1 from by simp] at hZ
  generalize ((w.alloc (Obj.cells #[.int .i64 2, .int .i64 a, .int .u8 (b.toNat : Int)] 23)).alloc (Obj.cells #[.int .i64 1, .int .i64 c, .int .u8 (d.toNat : Int)] 23)).alloc (Obj.cells #[.int .i64 0, .int .i64 0, .int .u8 0] 23) = W at *
  refine (H1.out _).mono ?_
  rintro e w1 ⟨rfl, hb1⟩
  have hX1 := hX.after hb1
  have hY1 := hY.after hb1
  have hZ1 := hZ.after hb1
  have hbw1 := chain hb1 hbW
  clear hX hY hZ hbW hb1
  have y0 := hY1.cell 0
  have y1 := hY1.cell 1
  have y2 := hY1.cell 2
  go_wp2_with fail
  refine (H2.out _).mono ?_
  rintro e w2 ⟨rfl, hb2⟩
  have hX2 := hX1.after hb2
  have hY2 := hY1.after hb2
  have hZ2 := hZ1.after hb2
  have hbw2 := chain hb2 hbw1
  clear hX1 hY1 hZ1 hbw1 hb2 y0 y1 y2
  have x0 := hX2.cell 0
  have x1 := hX2.cell 1
  have x2 := hX2.cell 2
  have y0 := hY2.cell 0
  have y1 := hY2.cell 1
  have y2 := hY2.cell 2
  have z0 := hZ2.cell 0
  have z1 := hZ2.cell 1
  have z2 := hZ2.cell 2
  have fx := hX2.frozen 1
  have f0 := hZ2.frozen 0
  have f1 := hZ2.frozen 1
  have f2 := hZ2.frozen 2
  go_wp2
  refine bodyPost_ret (v := .tuple #[.agg #[.int .i64 2, .int .i64 (a + 1), .int .u8 (b.toNat : Int)], .int .i64 0]) (by simp [results, Try.results17, go_sem, z0, z1, z2]) rfl ⟨rfl, ?_⟩
  exact (((hbw2.setCell (Nat.le_refl _) _).setCell (by show _ ≤ w.heap.size + 1 + 1; omega) _).setCell (by show _ ≤ w.heap.size + 1 + 1; omega) _).setCell (by show _ ≤ w.heap.size + 1 + 1; omega) _

set_option maxHeartbeats 4000000 in
theorem past_21eq (n a : Int) (b d : UInt8) (f : Bool) (hx : chO n (2, a, b) = 0) (hy : chO n (1, a, d) = 0) (hb : 0 ≤ a ∧ a ≤ 200) (w : World) :
    Calls Try.prog 17 #[.int .i64 n, .agg #[.int .i64 2, .int .i64 a, .int .u8 (b.toNat : Int)], .agg #[.int .i64 1, .int .i64 a, .int .u8 (d.toNat : Int)], .bool f] w fun e w' => e = .returned (.tuple #[.agg #[.int .i64 2, .int .i64 (a + 1), .int .u8 (b.toNat : Int)], .int .i64 0]) ∧ Below w.heap.size w w' := by
  have H1 := Lib.hid (fun w => by have := checkO_any n 2 a b w; rw [hx] at this; exact this)
  have H2 := Lib.hid (fun w => by have := checkO_any n 1 a d w; rw [hy] at this; exact this)
  have q2 : decide (a < a) = false := decide_eq_false (by omega)
  clear hx hy
  go_enter Try.func17, Try.ntmps17
  go_wp2_with fail
  have hX := ((Blk.new w 23 #[.int .i64 2, .int .i64 a, .int .u8 (b.toNat : Int)]).alloc (Obj.cells #[.int .i64 1, .int .i64 a, .int .u8 (d.toNat : Int)] 23)).alloc (Obj.cells #[.int .i64 0, .int .i64 0, .int .u8 0] 23)
  have hY := (Blk.new (w.alloc (Obj.cells #[.int .i64 2, .int .i64 a, .int .u8 (b.toNat : Int)] 23)) 23 #[.int .i64 1, .int .i64 a, .int .u8 (d.toNat : Int)]).alloc (Obj.cells #[.int .i64 0, .int .i64 0, .int .u8 0] 23)
  have hZ := Blk.new ((w.alloc (Obj.cells #[.int .i64 2, .int .i64 a, .int .u8 (b.toNat : Int)] 23)).alloc (Obj.cells #[.int .i64 1, .int .i64 a, .int .u8 (d.toNat : Int)] 23)) 23 #[.int .i64 0, .int .i64 0, .int .u8 0]
  have hbW := (((Below.refl w.heap.size w).alloc (Nat.le_refl _) (Obj.cells #[.int .i64 2, .int .i64 a, .int .u8 (b.toNat : Int)] 23)).alloc (by simp) (Obj.cells #[.int .i64 1, .int .i64 a, .int .u8 (d.toNat : Int)] 23)).alloc (by simp; omega) (Obj.cells #[.int .i64 0, .int .i64 0, .int .u8 0] 23)
  rw [show (w.alloc (Obj.cells #[.int .i64 2, .int .i64 a, .int .u8 (b.toNat : Int)] 23)).heap.size = w.heap.size + 1 from by simp] at hY
  rw [show ((w.alloc (Obj.cells #[.int .i64 2, .int .i64 a, .int .u8 (b.toNat : Int)] 23)).alloc (Obj.cells #[.int .i64 1, .int .i64 a, .int .u8 (d.toNat : Int)] 23)).heap.size = w.heap.size + 1 + 1 from by simp] at hZ
  generalize ((w.alloc (Obj.cells #[.int .i64 2, .int .i64 a, .int .u8 (b.toNat : Int)] 23)).alloc (Obj.cells #[.int .i64 1, .int .i64 a, .int .u8 (d.toNat : Int)] 23)).alloc (Obj.cells #[.int .i64 0, .int .i64 0, .int .u8 0] 23) = W at *
  refine (H1.out _).mono ?_
  rintro e w1 ⟨rfl, hb1⟩
  have hX1 := hX.after hb1
  have hY1 := hY.after hb1
  have hZ1 := hZ.after hb1
  have hbw1 := chain hb1 hbW
  clear hX hY hZ hbW hb1
  have y0 := hY1.cell 0
  have y1 := hY1.cell 1
  have y2 := hY1.cell 2
  go_wp2_with fail
  refine (H2.out _).mono ?_
  rintro e w2 ⟨rfl, hb2⟩
  have hX2 := hX1.after hb2
  have hY2 := hY1.after hb2
  have hZ2 := hZ1.after hb2
  have hbw2 := chain hb2 hbw1
  clear hX1 hY1 hZ1 hbw1 hb2 y0 y1 y2
  have x0 := hX2.cell 0
  have x1 := hX2.cell 1
  have x2 := hX2.cell 2
  have y0 := hY2.cell 0
  have y1 := hY2.cell 1
  have y2 := hY2.cell 2
  have z0 := hZ2.cell 0
  have z1 := hZ2.cell 1
  have z2 := hZ2.cell 2
  have fx := hX2.frozen 1
  have f0 := hZ2.frozen 0
  have f1 := hZ2.frozen 1
  have f2 := hZ2.frozen 2
  go_wp2
  refine bodyPost_ret (v := .tuple #[.agg #[.int .i64 2, .int .i64 (a + 1), .int .u8 (b.toNat : Int)], .int .i64 0]) (by simp [results, Try.results17, go_sem, z0, z1, z2]) rfl ⟨rfl, ?_⟩
  exact (((hbw2.setCell (Nat.le_refl _) _).setCell (by show _ ≤ w.heap.size + 1 + 1; omega) _).setCell (by show _ ≤ w.heap.size + 1 + 1; omega) _).setCell (by show _ ≤ w.heap.size + 1 + 1; omega) _

set_option maxHeartbeats 4000000 in
theorem past_21gt (n a c : Int) (b d : UInt8) (f : Bool) (hx : chO n (2, a, b) = 0) (hy : chO n (1, c, d) = 0) (hb : 0 ≤ a ∧ a ≤ 200) (h : a < c) (w : World) :
    Calls Try.prog 17 #[.int .i64 n, .agg #[.int .i64 2, .int .i64 a, .int .u8 (b.toNat : Int)], .agg #[.int .i64 1, .int .i64 c, .int .u8 (d.toNat : Int)], .bool f] w fun e w' => e = .returned (.tuple #[.agg #[.int .i64 2, .int .i64 a, .int .u8 (b.toNat : Int)], .int .i64 0]) ∧ Below w.heap.size w w' := by
  have H1 := Lib.hid (fun w => by have := checkO_any n 2 a b w; rw [hx] at this; exact this)
  have H2 := Lib.hid (fun w => by have := checkO_any n 1 c d w; rw [hy] at this; exact this)
  have q2 : decide (c < a) = false := decide_eq_false (by omega)
  have q3 : (a == c) = false := by rw [beq_eq_false_iff_ne]; omega
  have q4 : (c == a) = false := by rw [beq_eq_false_iff_ne]; omega
  clear hx hy
  go_enter Try.func17, Try.ntmps17
  go_wp2_with fail
  have hX := ((Blk.new w 23 #[.int .i64 2, .int .i64 a, .int .u8 (b.toNat : Int)]).alloc (Obj.cells #[.int .i64 1, .int .i64 c, .int .u8 (d.toNat : Int)] 23)).alloc (Obj.cells #[.int .i64 0, .int .i64 0, .int .u8 0] 23)
  have hY := (Blk.new (w.alloc (Obj.cells #[.int .i64 2, .int .i64 a, .int .u8 (b.toNat : Int)] 23)) 23 #[.int .i64 1, .int .i64 c, .int .u8 (d.toNat : Int)]).alloc (Obj.cells #[.int .i64 0, .int .i64 0, .int .u8 0] 23)
  have hZ := Blk.new ((w.alloc (Obj.cells #[.int .i64 2, .int .i64 a, .int .u8 (b.toNat : Int)] 23)).alloc (Obj.cells #[.int .i64 1, .int .i64 c, .int .u8 (d.toNat : Int)] 23)) 23 #[.int .i64 0, .int .i64 0, .int .u8 0]
  have hbW := (((Below.refl w.heap.size w).alloc (Nat.le_refl _) (Obj.cells #[.int .i64 2, .int .i64 a, .int .u8 (b.toNat : Int)] 23)).alloc (by simp) (Obj.cells #[.int .i64 1, .int .i64 c, .int .u8 (d.toNat : Int)] 23)).alloc (by simp; omega) (Obj.cells #[.int .i64 0, .int .i64 0, .int .u8 0] 23)
  rw [show (w.alloc (Obj.cells #[.int .i64 2, .int .i64 a, .int .u8 (b.toNat : Int)] 23)).heap.size = w.heap.size + 1 from by simp] at hY
  rw [show ((w.alloc (Obj.cells #[.int .i64 2, .int .i64 a, .int .u8 (b.toNat : Int)] 23)).alloc (Obj.cells #[.int .i64 1, .int .i64 c, .int .u8 (d.toNat : Int)] 23)).heap.size = w.heap.size + 1 + 1 from by simp] at hZ
  generalize ((w.alloc (Obj.cells #[.int .i64 2, .int .i64 a, .int .u8 (b.toNat : Int)] 23)).alloc (Obj.cells #[.int .i64 1, .int .i64 c, .int .u8 (d.toNat : Int)] 23)).alloc (Obj.cells #[.int .i64 0, .int .i64 0, .int .u8 0] 23) = W at *
  refine (H1.out _).mono ?_
  rintro e w1 ⟨rfl, hb1⟩
  have hX1 := hX.after hb1
  have hY1 := hY.after hb1
  have hZ1 := hZ.after hb1
  have hbw1 := chain hb1 hbW
  clear hX hY hZ hbW hb1
  have y0 := hY1.cell 0
  have y1 := hY1.cell 1
  have y2 := hY1.cell 2
  go_wp2_with fail
  refine (H2.out _).mono ?_
  rintro e w2 ⟨rfl, hb2⟩
  have hX2 := hX1.after hb2
  have hY2 := hY1.after hb2
  have hZ2 := hZ1.after hb2
  have hbw2 := chain hb2 hbw1
  clear hX1 hY1 hZ1 hbw1 hb2 y0 y1 y2
  have x0 := hX2.cell 0
  have x1 := hX2.cell 1
  have x2 := hX2.cell 2
  have y0 := hY2.cell 0
  have y1 := hY2.cell 1
  have y2 := hY2.cell 2
  have z0 := hZ2.cell 0
  have z1 := hZ2.cell 1
  have z2 := hZ2.cell 2
  have fx := hX2.frozen 1
  have f0 := hZ2.frozen 0
  have f1 := hZ2.frozen 1
  have f2 := hZ2.frozen 2
  go_wp2
  refine bodyPost_ret (v := .tuple #[.agg #[.int .i64 2, .int .i64 a, .int .u8 (b.toNat : Int)], .int .i64 0]) (by simp [results, Try.results17, go_sem, z0, z1, z2]) rfl ⟨rfl, ?_⟩
  exact ((hbw2.setCell (by show _ ≤ w.heap.size + 1 + 1; omega) _).setCell (by show _ ≤ w.heap.size + 1 + 1; omega) _).setCell (by show _ ≤ w.heap.size + 1 + 1; omega) _

set_option maxHeartbeats 4000000 in
theorem past_12lt (n a c : Int) (b d : UInt8) (f : Bool) (hx : chO n (1, a, b) = 0) (hy : chO n (2, c, d) = 0) (hb : 0 ≤ a ∧ a ≤ 200) (h : c < a) (w : World) :
    Calls Try.prog 17 #[.int .i64 n, .agg #[.int .i64 1, .int .i64 a, .int .u8 (b.toNat : Int)], .agg #[.int .i64 2, .int .i64 c, .int .u8 (d.toNat : Int)], .bool f] w fun e w' => e = .returned (.tuple #[.agg #[.int .i64 1, .int .i64 (a - 1), .int .u8 (b.toNat : Int)], .int .i64 0]) ∧ Below w.heap.size w w' := by
  have H1 := Lib.hid (fun w => by have := checkO_any n 1 a b w; rw [hx] at this; exact this)
  have H2 := Lib.hid (fun w => by have := checkO_any n 2 c d w; rw [hy] at this; exact this)
  have q2 : decide (c < a) = true := decide_eq_true h
  have q3 : (a == c) = false := by rw [beq_eq_false_iff_ne]; omega
  have q4 : (c == a) = false := by rw [beq_eq_false_iff_ne]; omega
  clear hx hy
  go_enter Try.func17, Try.ntmps17
  go_wp2_with fail
  have hX := ((Blk.new w 23 #[.int .i64 1, .int .i64 a, .int .u8 (b.toNat : Int)]).alloc (Obj.cells #[.int .i64 2, .int .i64 c, .int .u8 (d.toNat : Int)] 23)).alloc (Obj.cells #[.int .i64 0, .int .i64 0, .int .u8 0] 23)
  have hY := (Blk.new (w.alloc (Obj.cells #[.int .i64 1, .int .i64 a, .int .u8 (b.toNat : Int)] 23)) 23 #[.int .i64 2, .int .i64 c, .int .u8 (d.toNat : Int)]).alloc (Obj.cells #[.int .i64 0, .int .i64 0, .int .u8 0] 23)
  have hZ := Blk.new ((w.alloc (Obj.cells #[.int .i64 1, .int .i64 a, .int .u8 (b.toNat : Int)] 23)).alloc (Obj.cells #[.int .i64 2, .int .i64 c, .int .u8 (d.toNat : Int)] 23)) 23 #[.int .i64 0, .int .i64 0, .int .u8 0]
  have hbW := (((Below.refl w.heap.size w).alloc (Nat.le_refl _) (Obj.cells #[.int .i64 1, .int .i64 a, .int .u8 (b.toNat : Int)] 23)).alloc (by simp) (Obj.cells #[.int .i64 2, .int .i64 c, .int .u8 (d.toNat : Int)] 23)).alloc (by simp; omega) (Obj.cells #[.int .i64 0, .int .i64 0, .int .u8 0] 23)
  rw [show (w.alloc (Obj.cells #[.int .i64 1, .int .i64 a, .int .u8 (b.toNat : Int)] 23)).heap.size = w.heap.size + 1 from by simp] at hY
  rw [show ((w.alloc (Obj.cells #[.int .i64 1, .int .i64 a, .int .u8 (b.toNat : Int)] 23)).alloc (Obj.cells #[.int .i64 2, .int .i64 c, .int .u8 (d.toNat : Int)] 23)).heap.size = w.heap.size + 1 + 1 from by simp] at hZ
  generalize ((w.alloc (Obj.cells #[.int .i64 1, .int .i64 a, .int .u8 (b.toNat : Int)] 23)).alloc (Obj.cells #[.int .i64 2, .int .i64 c, .int .u8 (d.toNat : Int)] 23)).alloc (Obj.cells #[.int .i64 0, .int .i64 0, .int .u8 0] 23) = W at *
  refine (H1.out _).mono ?_
  rintro e w1 ⟨rfl, hb1⟩
  have hX1 := hX.after hb1
  have hY1 := hY.after hb1
  have hZ1 := hZ.after hb1
  have hbw1 := chain hb1 hbW
  clear hX hY hZ hbW hb1
  have y0 := hY1.cell 0
  have y1 := hY1.cell 1
  have y2 := hY1.cell 2
  go_wp2_with fail
  refine (H2.out _).mono ?_
  rintro e w2 ⟨rfl, hb2⟩
  have hX2 := hX1.after hb2
  have hY2 := hY1.after hb2
  have hZ2 := hZ1.after hb2
  have hbw2 := chain hb2 hbw1
  clear hX1 hY1 hZ1 hbw1 hb2 y0 y1 y2
  have x0 := hX2.cell 0
  have x1 := hX2.cell 1
  have x2 := hX2.cell 2
  have y0 := hY2.cell 0
  have y1 := hY2.cell 1
  have y2 := hY2.cell 2
  have z0 := hZ2.cell 0
  have z1 := hZ2.cell 1
  have z2 := hZ2.cell 2
  have fx := hX2.frozen 1
  have f0 := hZ2.frozen 0
  have f1 := hZ2.frozen 1
  have f2 := hZ2.frozen 2
  go_wp2
  refine bodyPost_ret (v := .tuple #[.agg #[.int .i64 1, .int .i64 (a - 1), .int .u8 (b.toNat : Int)], .int .i64 0]) (by simp [results, Try.results17, go_sem, z0, z1, z2]) rfl ⟨rfl, ?_⟩
  exact (((hbw2.setCell (Nat.le_refl _) _).setCell (by show _ ≤ w.heap.size + 1 + 1; omega) _).setCell (by show _ ≤ w.heap.size + 1 + 1; omega) _).setCell (by show _ ≤ w.heap.size + 1 + 1; omega) _

set_option maxHeartbeats 4000000 in
theorem past_12ge (n a c : Int) (b d : UInt8) (f : Bool) (hx : chO n (1, a, b) = 0) (hy : chO n (2, c, d) = 0) (hb : 0 ≤ a ∧ a ≤ 200) (h : ¬ c < a) (w : World) :
    Calls Try.prog 17 #[.int .i64 n, .agg #[.int .i64 1, .int .i64 a, .int .u8 (b.toNat : Int)], .agg #[.int .i64 2, .int .i64 c, .int .u8 (d.toNat : Int)], .bool f] w fun e w' => e = .returned (.tuple #[.agg #[.int .i64 1, .int .i64 a, .int .u8 (b.toNat : Int)], .int .i64 0]) ∧ Below w.heap.size w w' := by
  have H1 := Lib.hid (fun w => by have := checkO_any n 1 a b w; rw [hx] at this; exact this)
  have H2 := Lib.hid (fun w => by have := checkO_any n 2 c d w; rw [hy] at this; exact this)
  have q2 : decide (c < a) = false := decide_eq_false h
  clear hx hy
  go_enter Try.func17, Try.ntmps17
  go_wp2_with fail
  have hX := ((Blk.new w 23 #[.int .i64 1, .int .i64 a, .int .u8 (b.toNat : Int)]).alloc (Obj.cells #[.int .i64 2, .int .i64 c, .int .u8 (d.toNat : Int)] 23)).alloc (Obj.cells #[.int .i64 0, .int .i64 0, .int .u8 0] 23)
  have hY := (Blk.new (w.alloc (Obj.cells #[.int .i64 1, .int .i64 a, .int .u8 (b.toNat : Int)] 23)) 23 #[.int .i64 2, .int .i64 c, .int .u8 (d.toNat : Int)]).alloc (Obj.cells #[.int .i64 0, .int .i64 0, .int .u8 0] 23)
  have hZ := Blk.new ((w.alloc (Obj.cells #[.int .i64 1, .int .i64 a, .int .u8 (b.toNat : Int)] 23)).alloc (Obj.cells #[.int .i64 2, .int .i64 c, .int .u8 (d.toNat : Int)] 23)) 23 #[.int .i64 0, .int .i64 0, .int .u8 0]
  have hbW := (((Below.refl w.heap.size w).alloc (Nat.le_refl _) (Obj.cells #[.int .i64 1, .int .i64 a, .int .u8 (b.toNat : Int)] 23)).alloc (by simp) (Obj.cells #[.int .i64 2, .int .i64 c, .int .u8 (d.toNat : Int)] 23)).alloc (by simp; omega) (Obj.cells #[.int .i64 0, .int .i64 0, .int .u8 0] 23)
  rw [show (w.alloc (Obj.cells #[.int .i64 1, .int .i64 a, .int .u8 (b.toNat : Int)] 23)).heap.size = w.heap.size + 1 from by simp] at hY
  rw [show ((w.alloc (Obj.cells #[.int .i64 1, .int .i64 a, .int .u8 (b.toNat : Int)] 23)).alloc (Obj.cells #[.int .i64 2, .int .i64 c, .int .u8 (d.toNat : Int)] 23)).heap.size = w.heap.size + 1 + 1 from by simp] at hZ
  generalize ((w.alloc (Obj.cells #[.int .i64 1, .int .i64 a, .int .u8 (b.toNat : Int)] 23)).alloc (Obj.cells #[.int .i64 2, .int .i64 c, .int .u8 (d.toNat : Int)] 23)).alloc (Obj.cells #[.int .i64 0, .int .i64 0, .int .u8 0] 23) = W at *
  refine (H1.out _).mono ?_
  rintro e w1 ⟨rfl, hb1⟩
  have hX1 := hX.after hb1
  have hY1 := hY.after hb1
  have hZ1 := hZ.after hb1
  have hbw1 := chain hb1 hbW
  clear hX hY hZ hbW hb1
  have y0 := hY1.cell 0
  have y1 := hY1.cell 1
  have y2 := hY1.cell 2
  go_wp2_with fail
  refine (H2.out _).mono ?_
  rintro e w2 ⟨rfl, hb2⟩
  have hX2 := hX1.after hb2
  have hY2 := hY1.after hb2
  have hZ2 := hZ1.after hb2
  have hbw2 := chain hb2 hbw1
  clear hX1 hY1 hZ1 hbw1 hb2 y0 y1 y2
  have x0 := hX2.cell 0
  have x1 := hX2.cell 1
  have x2 := hX2.cell 2
  have y0 := hY2.cell 0
  have y1 := hY2.cell 1
  have y2 := hY2.cell 2
  have z0 := hZ2.cell 0
  have z1 := hZ2.cell 1
  have z2 := hZ2.cell 2
  have fx := hX2.frozen 1
  have f0 := hZ2.frozen 0
  have f1 := hZ2.frozen 1
  have f2 := hZ2.frozen 2
  go_wp2
  refine bodyPost_ret (v := .tuple #[.agg #[.int .i64 1, .int .i64 a, .int .u8 (b.toNat : Int)], .int .i64 0]) (by simp [results, Try.results17, go_sem, z0, z1, z2]) rfl ⟨rfl, ?_⟩
  exact ((hbw2.setCell (by show _ ≤ w.heap.size + 1 + 1; omega) _).setCell (by show _ ≤ w.heap.size + 1 + 1; omega) _).setCell (by show _ ≤ w.heap.size + 1 + 1; omega) _

set_option maxHeartbeats 4000000 in
theorem past_22eq (n a : Int) (b d : UInt8) (f : Bool) (hx : chO n (2, a, b) = 0) (hy : chO n (2, a, d) = 0) (hb : 0 ≤ a ∧ a ≤ 200) (w : World) :
    Calls Try.prog 17 #[.int .i64 n, .agg #[.int .i64 2, .int .i64 a, .int .u8 (b.toNat : Int)], .agg #[.int .i64 2, .int .i64 a, .int .u8 (d.toNat : Int)], .bool f] w fun e w' => e = .returned (.tuple #[.agg #[.int .i64 3, .int .i64 0, .int .u8 0], .int .i64 0]) ∧ Below w.heap.size w w' := by
  have H1 := Lib.hid (fun w => by have := checkO_any n 2 a b w; rw [hx] at this; exact this)
  have H2 := Lib.hid (fun w => by have := checkO_any n 2 a d w; rw [hy] at this; exact this)
  have q2 : decide (a < a) = false := decide_eq_false (by omega)
  clear hx hy
  go_enter Try.func17, Try.ntmps17
  go_wp2_with fail
  have hX := ((Blk.new w 23 #[.int .i64 2, .int .i64 a, .int .u8 (b.toNat : Int)]).alloc (Obj.cells #[.int .i64 2, .int .i64 a, .int .u8 (d.toNat : Int)] 23)).alloc (Obj.cells #[.int .i64 0, .int .i64 0, .int .u8 0] 23)
  have hY := (Blk.new (w.alloc (Obj.cells #[.int .i64 2, .int .i64 a, .int .u8 (b.toNat : Int)] 23)) 23 #[.int .i64 2, .int .i64 a, .int .u8 (d.toNat : Int)]).alloc (Obj.cells #[.int .i64 0, .int .i64 0, .int .u8 0] 23)
  have hZ := Blk.new ((w.alloc (Obj.cells #[.int .i64 2, .int .i64 a, .int .u8 (b.toNat : Int)] 23)).alloc (Obj.cells #[.int .i64 2, .int .i64 a, .int .u8 (d.toNat : Int)] 23)) 23 #[.int .i64 0, .int .i64 0, .int .u8 0]
  have hbW := (((Below.refl w.heap.size w).alloc (Nat.le_refl _) (Obj.cells #[.int .i64 2, .int .i64 a, .int .u8 (b.toNat : Int)] 23)).alloc (by simp) (Obj.cells #[.int .i64 2, .int .i64 a, .int .u8 (d.toNat : Int)] 23)).alloc (by simp; omega) (Obj.cells #[.int .i64 0, .int .i64 0, .int .u8 0] 23)
  rw [show (w.alloc (Obj.cells #[.int .i64 2, .int .i64 a, .int .u8 (b.toNat : Int)] 23)).heap.size = w.heap.size + 1 from by simp] at hY
  rw [show ((w.alloc (Obj.cells #[.int .i64 2, .int .i64 a, .int .u8 (b.toNat : Int)] 23)).alloc (Obj.cells #[.int .i64 2, .int .i64 a, .int .u8 (d.toNat : Int)] 23)).heap.size = w.heap.size + 1 + 1 from by simp] at hZ
  generalize ((w.alloc (Obj.cells #[.int .i64 2, .int .i64 a, .int .u8 (b.toNat : Int)] 23)).alloc (Obj.cells #[.int .i64 2, .int .i64 a, .int .u8 (d.toNat : Int)] 23)).alloc (Obj.cells #[.int .i64 0, .int .i64 0, .int .u8 0] 23) = W at *
  refine (H1.out _).mono ?_
  rintro e w1 ⟨rfl, hb1⟩
  have hX1 := hX.after hb1
  have hY1 := hY.after hb1
  have hZ1 := hZ.after hb1
  have hbw1 := chain hb1 hbW
  clear hX hY hZ hbW hb1
  have y0 := hY1.cell 0
  have y1 := hY1.cell 1
  have y2 := hY1.cell 2
  go_wp2_with fail
  refine (H2.out _).mono ?_
  rintro e w2 ⟨rfl, hb2⟩
  have hX2 := hX1.after hb2
  have hY2 := hY1.after hb2
  have hZ2 := hZ1.after hb2
  have hbw2 := chain hb2 hbw1
  clear hX1 hY1 hZ1 hbw1 hb2 y0 y1 y2
  have x0 := hX2.cell 0
  have x1 := hX2.cell 1
  have x2 := hX2.cell 2
  have y0 := hY2.cell 0
  have y1 := hY2.cell 1
  have y2 := hY2.cell 2
  have z0 := hZ2.cell 0
  have z1 := hZ2.cell 1
  have z2 := hZ2.cell 2
  have fx := hX2.frozen 1
  have f0 := hZ2.frozen 0
  have f1 := hZ2.frozen 1
  have f2 := hZ2.frozen 2
  go_wp2
  refine bodyPost_ret (v := .tuple #[.agg #[.int .i64 3, .int .i64 0, .int .u8 0], .int .i64 0]) (by simp [results, Try.results17, go_sem, z0, z1, z2]) rfl ⟨rfl, ?_⟩
  exact ((hbw2.setCell (by show _ ≤ w.heap.size + 1 + 1; omega) _).setCell (by show _ ≤ w.heap.size + 1 + 1; omega) _).setCell (by show _ ≤ w.heap.size + 1 + 1; omega) _

set_option maxHeartbeats 4000000 in
theorem past_22lt (n a c : Int) (b d : UInt8) (f : Bool) (hx : chO n (2, a, b) = 0) (hy : chO n (2, c, d) = 0) (hb : 0 ≤ a ∧ a ≤ 200) (h : c < a) (w : World) :
    Calls Try.prog 17 #[.int .i64 n, .agg #[.int .i64 2, .int .i64 a, .int .u8 (b.toNat : Int)], .agg #[.int .i64 2, .int .i64 c, .int .u8 (d.toNat : Int)], .bool f] w fun e w' => e = .returned (.tuple #[.agg #[.int .i64 2, .int .i64 (a - 1), .int .u8 (b.toNat : Int)], .int .i64 0]) ∧ Below w.heap.size w w' := by
  have H1 := Lib.hid (fun w => by have := checkO_any n 2 a b w; rw [hx] at this; exact this)
  have H2 := Lib.hid (fun w => by have := checkO_any n 2 c d w; rw [hy] at this; exact this)
  have q2 : decide (c < a) = true := decide_eq_true h
  have q3 : (a == c) = false := by rw [beq_eq_false_iff_ne]; omega
  have q4 : (c == a) = false := by rw [beq_eq_false_iff_ne]; omega
  clear hx hy
  go_enter Try.func17, Try.ntmps17
  go_wp2_with fail
  have hX := ((Blk.new w 23 #[.int .i64 2, .int .i64 a, .int .u8 (b.toNat : Int)]).alloc (Obj.cells #[.int .i64 2, .int .i64 c, .int .u8 (d.toNat : Int)] 23)).alloc (Obj.cells #[.int .i64 0, .int .i64 0, .int .u8 0] 23)
  have hY := (Blk.new (w.alloc (Obj.cells #[.int .i64 2, .int .i64 a, .int .u8 (b.toNat : Int)] 23)) 23 #[.int .i64 2, .int .i64 c, .int .u8 (d.toNat : Int)]).alloc (Obj.cells #[.int .i64 0, .int .i64 0, .int .u8 0] 23)
  have hZ := Blk.new ((w.alloc (Obj.cells #[.int .i64 2, .int .i64 a, .int .u8 (b.toNat : Int)] 23)).alloc (Obj.cells #[.int .i64 2, .int .i64 c, .int .u8 (d.toNat : Int)] 23)) 23 #[.int .i64 0, .int .i64 0, .int .u8 0]
  have hbW := (((Below.refl w.heap.size w).alloc (Nat.le_refl _) (Obj.cells #[.int .i64 2, .int .i64 a, .int .u8 (b.toNat : Int)] 23)).alloc (by simp) (Obj.cells #[.int .i64 2, .int .i64 c, .int .u8 (d.toNat : Int)] 23)).alloc (by simp; omega) (Obj.cells #[.int .i64 0, .int .i64 0, .int .u8 0] 23)
  rw [show (w.alloc (Obj.cells #[.int .i64 2, .int .i64 a, .int .u8 (b.toNat : Int)] 23)).heap.size = w.heap.size + 1 from by simp] at hY
  rw [show ((w.alloc (Obj.cells #[.int .i64 2, .int .i64 a, .int .u8 (b.toNat : Int)] 23)).alloc (Obj.cells #[.int .i64 2, .int .i64 c, .int .u8 (d.toNat : Int)] 23)).heap.size = w.heap.size + 1 + 1 from by simp] at hZ
  generalize ((w.alloc (Obj.cells #[.int .i64 2, .int .i64 a, .int .u8 (b.toNat : Int)] 23)).alloc (Obj.cells #[.int .i64 2, .int .i64 c, .int .u8 (d.toNat : Int)] 23)).alloc (Obj.cells #[.int .i64 0, .int .i64 0, .int .u8 0] 23) = W at *
  refine (H1.out _).mono ?_
  rintro e w1 ⟨rfl, hb1⟩
  have hX1 := hX.after hb1
  have hY1 := hY.after hb1
  have hZ1 := hZ.after hb1
  have hbw1 := chain hb1 hbW
  clear hX hY hZ hbW hb1
  have y0 := hY1.cell 0
  have y1 := hY1.cell 1
  have y2 := hY1.cell 2
  go_wp2_with fail
  refine (H2.out _).mono ?_
  rintro e w2 ⟨rfl, hb2⟩
  have hX2 := hX1.after hb2
  have hY2 := hY1.after hb2
  have hZ2 := hZ1.after hb2
  have hbw2 := chain hb2 hbw1
  clear hX1 hY1 hZ1 hbw1 hb2 y0 y1 y2
  have x0 := hX2.cell 0
  have x1 := hX2.cell 1
  have x2 := hX2.cell 2
  have y0 := hY2.cell 0
  have y1 := hY2.cell 1
  have y2 := hY2.cell 2
  have z0 := hZ2.cell 0
  have z1 := hZ2.cell 1
  have z2 := hZ2.cell 2
  have fx := hX2.frozen 1
  have f0 := hZ2.frozen 0
  have f1 := hZ2.frozen 1
  have f2 := hZ2.frozen 2
  go_wp2
  refine bodyPost_ret (v := .tuple #[.agg #[.int .i64 2, .int .i64 (a - 1), .int .u8 (b.toNat : Int)], .int .i64 0]) (by simp [results, Try.results17, go_sem, z0, z1, z2]) rfl ⟨rfl, ?_⟩
  exact (((hbw2.setCell (Nat.le_refl _) _).setCell (by show _ ≤ w.heap.size + 1 + 1; omega) _).setCell (by show _ ≤ w.heap.size + 1 + 1; omega) _).setCell (by show _ ≤ w.heap.size + 1 + 1; omega) _

set_option maxHeartbeats 4000000 in
theorem past_22gt (n a c : Int) (b d : UInt8) (f : Bool) (hx : chO n (2, a, b) = 0) (hy : chO n (2, c, d) = 0) (hb : 0 ≤ a ∧ a ≤ 200) (h : a < c) (w : World) :
    Calls Try.prog 17 #[.int .i64 n, .agg #[.int .i64 2, .int .i64 a, .int .u8 (b.toNat : Int)], .agg #[.int .i64 2, .int .i64 c, .int .u8 (d.toNat : Int)], .bool f] w fun e w' => e = .returned (.tuple #[.agg #[.int .i64 2, .int .i64 a, .int .u8 (b.toNat : Int)], .int .i64 0]) ∧ Below w.heap.size w w' := by
  have H1 := Lib.hid (fun w => by have := checkO_any n 2 a b w; rw [hx] at this; exact this)
  have H2 := Lib.hid (fun w => by have := checkO_any n 2 c d w; rw [hy] at this; exact this)
  have q2 : decide (c < a) = false := decide_eq_false (by omega)
  have q3 : (a == c) = false := by rw [beq_eq_false_iff_ne]; omega
  have q4 : (c == a) = false := by rw [beq_eq_false_iff_ne]; omega
  clear hx hy
  go_enter Try.func17, Try.ntmps17
  go_wp2_with fail
  have hX := ((Blk.new w 23 #[.int .i64 2, .int .i64 a, .int .u8 (b.toNat : Int)]).alloc (Obj.cells #[.int .i64 2, .int .i64 c, .int .u8 (d.toNat : Int)] 23)).alloc (Obj.cells #[.int .i64 0, .int .i64 0, .int .u8 0] 23)
  have hY := (Blk.new (w.alloc (Obj.cells #[.int .i64 2, .int .i64 a, .int .u8 (b.toNat : Int)] 23)) 23 #[.int .i64 2, .int .i64 c, .int .u8 (d.toNat : Int)]).alloc (Obj.cells #[.int .i64 0, .int .i64 0, .int .u8 0] 23)
  have hZ := Blk.new ((w.alloc (Obj.cells #[.int .i64 2, .int .i64 a, .int .u8 (b.toNat : Int)] 23)).alloc (Obj.cells #[.int .i64 2, .int .i64 c, .int .u8 (d.toNat : Int)] 23)) 23 #[.int .i64 0, .int .i64 0, .int .u8 0]
  have hbW := (((Below.refl w.heap.size w).alloc (Nat.le_refl _) (Obj.cells #[.int .i64 2, .int .i64 a, .int .u8 (b.toNat : Int)] 23)).alloc (by simp) (Obj.cells #[.int .i64 2, .int .i64 c, .int .u8 (d.toNat : Int)] 23)).alloc (by simp; omega) (Obj.cells #[.int .i64 0, .int .i64 0, .int .u8 0] 23)
  rw [show (w.alloc (Obj.cells #[.int .i64 2, .int .i64 a, .int .u8 (b.toNat : Int)] 23)).heap.size = w.heap.size + 1 from by simp] at hY
  rw [show ((w.alloc (Obj.cells #[.int .i64 2, .int .i64 a, .int .u8 (b.toNat : Int)] 23)).alloc (Obj.cells #[.int .i64 2, .int .i64 c, .int .u8 (d.toNat : Int)] 23)).heap.size = w.heap.size + 1 + 1 from by simp] at hZ
  generalize ((w.alloc (Obj.cells #[.int .i64 2, .int .i64 a, .int .u8 (b.toNat : Int)] 23)).alloc (Obj.cells #[.int .i64 2, .int .i64 c, .int .u8 (d.toNat : Int)] 23)).alloc (Obj.cells #[.int .i64 0, .int .i64 0, .int .u8 0] 23) = W at *
  refine (H1.out _).mono ?_
  rintro e w1 ⟨rfl, hb1⟩
  have hX1 := hX.after hb1
  have hY1 := hY.after hb1
  have hZ1 := hZ.after hb1
  have hbw1 := chain hb1 hbW
  clear hX hY hZ hbW hb1
  have y0 := hY1.cell 0
  have y1 := hY1.cell 1
  have y2 := hY1.cell 2
  go_wp2_with fail
  refine (H2.out _).mono ?_
  rintro e w2 ⟨rfl, hb2⟩
  have hX2 := hX1.after hb2
  have hY2 := hY1.after hb2
  have hZ2 := hZ1.after hb2
  have hbw2 := chain hb2 hbw1
  clear hX1 hY1 hZ1 hbw1 hb2 y0 y1 y2
  have x0 := hX2.cell 0
  have x1 := hX2.cell 1
  have x2 := hX2.cell 2
  have y0 := hY2.cell 0
  have y1 := hY2.cell 1
  have y2 := hY2.cell 2
  have z0 := hZ2.cell 0
  have z1 := hZ2.cell 1
  have z2 := hZ2.cell 2
  have fx := hX2.frozen 1
  have f0 := hZ2.frozen 0
  have f1 := hZ2.frozen 1
  have f2 := hZ2.frozen 2
  go_wp2
  refine bodyPost_ret (v := .tuple #[.agg #[.int .i64 2, .int .i64 a, .int .u8 (b.toNat : Int)], .int .i64 0]) (by simp [results, Try.results17, go_sem, z0, z1, z2]) rfl ⟨rfl, ?_⟩
  exact ((hbw2.setCell (by show _ ≤ w.heap.size + 1 + 1; omega) _).setCell (by show _ ≤ w.heap.size + 1 + 1; omega) _).setCell (by show _ ≤ w.heap.size + 1 + 1; omega) _

/-- Past, of two right ops. -/
theorem past_ok (n : Int) (x y : Op3) (f : Bool) (hx : chO n x = 0) (hy : chO n y = 0) (w : World) :
    Calls Try.prog 17 #[.int .i64 n, .agg (cOp x).toArray, .agg (cOp y).toArray, .bool f] w fun e w' => e = .returned (.tuple #[.agg (cOp (pst x y f)).toArray, .int .i64 0]) ∧ Below w.heap.size w w' := by
  have kx := chO_ok hx
  have ky := chO_ok hy
  obtain ⟨k, a, b⟩ := x
  obtain ⟨l, c, d⟩ := y
  simp only at kx ky
  obtain ⟨k0, k1, kx⟩ := kx
  obtain ⟨_, _, ky⟩ := ky
  rcases kx with ⟨rfl, h1, h2, h3⟩ | ⟨rfl, h1, h2, rfl⟩ | ⟨rfl, rfl, rfl⟩
  · rcases ky with ⟨rfl, g1, g2, g3⟩ | ⟨rfl, g1, g2, rfl⟩ | ⟨rfl, rfl, rfl⟩
    · rw [pst_put_put]
      rcases Int.lt_trichotomy c a with h | h | h
      · rw [if_pos (.inl h)]; exact past_11lt n a c b d f hx hy (by omega) h w
      · subst h
        cases f
        · rw [if_pos (.inr ⟨rfl, rfl⟩)]; exact past_11eqf n c b d hx hy (by omega) w
        · rw [if_neg (by simp)]; exact past_11eqt n c b d hx hy (by omega) w
      · rw [if_neg (by omega)]; exact past_11gt n a c b d f hx hy (by omega) h w
    · rw [pst_put_take]
      by_cases h : c < a
      · rw [if_pos h]; exact past_12lt n a c b 0 f hx hy (by omega) h w
      · rw [if_neg h]; exact past_12ge n a c b 0 f hx hy (by omega) h w
    · rw [pst_none_right]; exact past_x3 n a 0 1 b 0 f hx hy (by omega) rfl w
  · rcases ky with ⟨rfl, g1, g2, g3⟩ | ⟨rfl, g1, g2, rfl⟩ | ⟨rfl, rfl, rfl⟩
    · rw [pst_take_put]
      rcases Int.lt_trichotomy c a with h | h | h
      · rw [if_pos (by omega)]; exact past_21lt n a c 0 d f hx hy (by omega) h w
      · subst h; rw [if_pos (Int.le_refl _)]; exact past_21eq n c 0 d f hx hy (by omega) w
      · rw [if_neg (by omega)]; exact past_21gt n a c 0 d f hx hy (by omega) h w
    · rw [pst_take_take]
      rcases Int.lt_trichotomy c a with h | h | h
      · rw [if_neg (by omega), if_pos h]; exact past_22lt n a c 0 0 f hx hy (by omega) h w
      · subst h; rw [if_pos rfl]; exact past_22eq n c 0 0 f hx hy (by omega) w
      · rw [if_neg (by omega), if_neg (by omega)]; exact past_22gt n a c 0 0 f hx hy (by omega) h w
    · rw [pst_none_right]; exact past_x3 n a 0 2 0 0 f hx hy (by omega) rfl w
  · rw [pst_none_left]; exact past_3x n 0 c l 0 d f hx hy (by omega) w

theorem pastX (n : Int) (x y : Op3) (f : Bool) (E : Int) (hE : chO n x = E) (h : E ≠ 0) (w : World) :
    Calls Try.prog 17 #[.int .i64 n, .agg (cOp x).toArray, .agg (cOp y).toArray, .bool f] w fun e w' => e = .returned (.tuple #[.agg #[.int .i64 0, .int .i64 0, .int .u8 0], .int .i64 E]) ∧ Below w.heap.size w w' := by
  obtain ⟨k, a, b⟩ := x
  obtain ⟨l, c, d⟩ := y
  have H1 := Lib.hid (fun w => by have := checkO_any n k a b w; rw [hE] at this; exact this)
  have q0 : (E != 0) = true := by rw [bne_iff_ne]; exact h
  clear hE h
  show Calls Try.prog 17 #[.int .i64 n, .agg #[.int .i64 k, .int .i64 a, .int .u8 (b.toNat : Int)], .agg #[.int .i64 l, .int .i64 c, .int .u8 (d.toNat : Int)], .bool f] w _
  go_enter Try.func17, Try.ntmps17
  go_wp2_with fail
  have hX := ((Blk.new w 23 #[.int .i64 k, .int .i64 a, .int .u8 (b.toNat : Int)]).alloc (Obj.cells #[.int .i64 l, .int .i64 c, .int .u8 (d.toNat : Int)] 23)).alloc (Obj.cells #[.int .i64 0, .int .i64 0, .int .u8 0] 23)
  have hY := (Blk.new (w.alloc (Obj.cells #[.int .i64 k, .int .i64 a, .int .u8 (b.toNat : Int)] 23)) 23 #[.int .i64 l, .int .i64 c, .int .u8 (d.toNat : Int)]).alloc (Obj.cells #[.int .i64 0, .int .i64 0, .int .u8 0] 23)
  have hZ := Blk.new ((w.alloc (Obj.cells #[.int .i64 k, .int .i64 a, .int .u8 (b.toNat : Int)] 23)).alloc (Obj.cells #[.int .i64 l, .int .i64 c, .int .u8 (d.toNat : Int)] 23)) 23 #[.int .i64 0, .int .i64 0, .int .u8 0]
  have hbW := (((Below.refl w.heap.size w).alloc (Nat.le_refl _) (Obj.cells #[.int .i64 k, .int .i64 a, .int .u8 (b.toNat : Int)] 23)).alloc (by simp) (Obj.cells #[.int .i64 l, .int .i64 c, .int .u8 (d.toNat : Int)] 23)).alloc (by simp; omega) (Obj.cells #[.int .i64 0, .int .i64 0, .int .u8 0] 23)
  rw [show (w.alloc (Obj.cells #[.int .i64 k, .int .i64 a, .int .u8 (b.toNat : Int)] 23)).heap.size = w.heap.size + 1 from by simp] at hY
  rw [show ((w.alloc (Obj.cells #[.int .i64 k, .int .i64 a, .int .u8 (b.toNat : Int)] 23)).alloc (Obj.cells #[.int .i64 l, .int .i64 c, .int .u8 (d.toNat : Int)] 23)).heap.size = w.heap.size + 1 + 1 from by simp] at hZ
  generalize ((w.alloc (Obj.cells #[.int .i64 k, .int .i64 a, .int .u8 (b.toNat : Int)] 23)).alloc (Obj.cells #[.int .i64 l, .int .i64 c, .int .u8 (d.toNat : Int)] 23)).alloc (Obj.cells #[.int .i64 0, .int .i64 0, .int .u8 0] 23) = W at *
  refine (H1.out _).mono ?_
  rintro e w1 ⟨rfl, hb1⟩
  have hZ1 := hZ.after hb1
  have hbw1 := chain hb1 hbW
  clear hX hY hZ hbW hb1
  have z0 := hZ1.cell 0
  have z1 := hZ1.cell 1
  have z2 := hZ1.cell 2
  have f0 := hZ1.frozen 0
  have f1 := hZ1.frozen 1
  have f2 := hZ1.frozen 2
  go_wp2
  refine bodyPost_ret (v := .tuple #[.agg #[.int .i64 0, .int .i64 0, .int .u8 0], .int .i64 E]) (by simp [results, Try.results17, go_sem, z0, z1, z2]) rfl ⟨rfl, ?_⟩
  exact ((hbw1.setCell (by show _ ≤ w.heap.size + 1 + 1; omega) _).setCell (by show _ ≤ w.heap.size + 1 + 1; omega) _).setCell (by show _ ≤ w.heap.size + 1 + 1; omega) _

theorem pastY (n : Int) (x y : Op3) (f : Bool) (E : Int) (hx : chO n x = 0) (hE : chO n y = E) (h : E ≠ 0) (w : World) :
    Calls Try.prog 17 #[.int .i64 n, .agg (cOp x).toArray, .agg (cOp y).toArray, .bool f] w fun e w' => e = .returned (.tuple #[.agg #[.int .i64 0, .int .i64 0, .int .u8 0], .int .i64 E]) ∧ Below w.heap.size w w' := by
  obtain ⟨k, a, b⟩ := x
  obtain ⟨l, c, d⟩ := y
  have H1 := Lib.hid (fun w => by have := checkO_any n k a b w; rw [hx] at this; exact this)
  have H2 := Lib.hid (fun w => by have := checkO_any n l c d w; rw [hE] at this; exact this)
  have q0 : (E != 0) = true := by rw [bne_iff_ne]; exact h
  clear hE h hx
  show Calls Try.prog 17 #[.int .i64 n, .agg #[.int .i64 k, .int .i64 a, .int .u8 (b.toNat : Int)], .agg #[.int .i64 l, .int .i64 c, .int .u8 (d.toNat : Int)], .bool f] w _
  go_enter Try.func17, Try.ntmps17
  go_wp2_with fail
  have hX := ((Blk.new w 23 #[.int .i64 k, .int .i64 a, .int .u8 (b.toNat : Int)]).alloc (Obj.cells #[.int .i64 l, .int .i64 c, .int .u8 (d.toNat : Int)] 23)).alloc (Obj.cells #[.int .i64 0, .int .i64 0, .int .u8 0] 23)
  have hY := (Blk.new (w.alloc (Obj.cells #[.int .i64 k, .int .i64 a, .int .u8 (b.toNat : Int)] 23)) 23 #[.int .i64 l, .int .i64 c, .int .u8 (d.toNat : Int)]).alloc (Obj.cells #[.int .i64 0, .int .i64 0, .int .u8 0] 23)
  have hZ := Blk.new ((w.alloc (Obj.cells #[.int .i64 k, .int .i64 a, .int .u8 (b.toNat : Int)] 23)).alloc (Obj.cells #[.int .i64 l, .int .i64 c, .int .u8 (d.toNat : Int)] 23)) 23 #[.int .i64 0, .int .i64 0, .int .u8 0]
  have hbW := (((Below.refl w.heap.size w).alloc (Nat.le_refl _) (Obj.cells #[.int .i64 k, .int .i64 a, .int .u8 (b.toNat : Int)] 23)).alloc (by simp) (Obj.cells #[.int .i64 l, .int .i64 c, .int .u8 (d.toNat : Int)] 23)).alloc (by simp; omega) (Obj.cells #[.int .i64 0, .int .i64 0, .int .u8 0] 23)
  rw [show (w.alloc (Obj.cells #[.int .i64 k, .int .i64 a, .int .u8 (b.toNat : Int)] 23)).heap.size = w.heap.size + 1 from by simp] at hY
  rw [show ((w.alloc (Obj.cells #[.int .i64 k, .int .i64 a, .int .u8 (b.toNat : Int)] 23)).alloc (Obj.cells #[.int .i64 l, .int .i64 c, .int .u8 (d.toNat : Int)] 23)).heap.size = w.heap.size + 1 + 1 from by simp] at hZ
  generalize ((w.alloc (Obj.cells #[.int .i64 k, .int .i64 a, .int .u8 (b.toNat : Int)] 23)).alloc (Obj.cells #[.int .i64 l, .int .i64 c, .int .u8 (d.toNat : Int)] 23)).alloc (Obj.cells #[.int .i64 0, .int .i64 0, .int .u8 0] 23) = W at *
  refine (H1.out _).mono ?_
  rintro e w1 ⟨rfl, hb1⟩
  have hY1 := hY.after hb1
  have hZ1 := hZ.after hb1
  have hbw1 := chain hb1 hbW
  clear hX hY hZ hbW hb1
  have y0 := hY1.cell 0
  have y1 := hY1.cell 1
  have y2 := hY1.cell 2
  go_wp2_with fail
  refine (H2.out _).mono ?_
  rintro e w2 ⟨rfl, hb2⟩
  have hZ2 := hZ1.after hb2
  have hbw2 := chain hb2 hbw1
  clear hY1 hZ1 hbw1 hb2 y0 y1 y2
  have z0 := hZ2.cell 0
  have z1 := hZ2.cell 1
  have z2 := hZ2.cell 2
  have f0 := hZ2.frozen 0
  have f1 := hZ2.frozen 1
  have f2 := hZ2.frozen 2
  go_wp2
  refine bodyPost_ret (v := .tuple #[.agg #[.int .i64 0, .int .i64 0, .int .u8 0], .int .i64 E]) (by simp [results, Try.results17, go_sem, z0, z1, z2]) rfl ⟨rfl, ?_⟩
  exact ((hbw2.setCell (by show _ ≤ w.heap.size + 1 + 1; omega) _).setCell (by show _ ≤ w.heap.size + 1 + 1; omega) _).setCell (by show _ ≤ w.heap.size + 1 + 1; omega) _

/-- What Past answers of any two. -/
def pastE (n : Int) (x y : Op3) : Int := if chO n x ≠ 0 then chO n x else chO n y
theorem past_no (n : Int) (x y : Op3) (f : Bool) (h : pastE n x y ≠ 0) (w : World) :
    Calls Try.prog 17 #[.int .i64 n, .agg (cOp x).toArray, .agg (cOp y).toArray, .bool f] w fun e w' => e = .returned (.tuple #[.agg #[.int .i64 0, .int .i64 0, .int .u8 0], .int .i64 (pastE n x y)]) ∧ Below w.heap.size w w' := by
  unfold pastE at *
  by_cases hx : chO n x = 0
  · rw [if_neg (fun h => h hx)] at *
    exact pastY n x y f _ hx rfl h w
  · rw [if_pos hx] at *
    exact pastX n x y f _ rfl hx w

end Go.Proofs.Ytpeplkjidljpmaa
