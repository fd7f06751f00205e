/- ShiftTwo's walk: two concurrent operations converge after transformation. -/
import Derived.Test.YtpeplkjidljpmaaShiftPast
import Derived.Test.YtpeplkjidljpmaaGood
import Derived.Test.YtpeplkjidljpmaaArgs
namespace Go.Proofs.Ytpeplkjidljpmaa
open Go.RowKit
set_option linter.unusedVariables false

set_option maxHeartbeats 1000000 in
theorem shifts_any (w : World) : Calls Try.prog 15 #[] w fun e w' => e = .returned (.bool true) ∧ Below w.heap.size w w' := by
  have c1 : ∀ w, Calls Try.prog 17 #[.int .i64 3, .agg #[.int .i64 1, .int .i64 1, .int .u8 120], .agg #[.int .i64 1, .int .i64 1, .int .u8 121], .bool false] w fun e w' => e = .returned (.tuple #[.agg #[.int .i64 1, .int .i64 2, .int .u8 120], .int .i64 0]) ∧ Below w.heap.size w w' := fun w =>
    past_11eqf 3 1 120 121 (by decide) (by decide) (by decide) w
  have C1 := Lib.hid c1
  have heq := eqOp 1 2 120 1 2 120
  have hgd := guardOp
  clear c1
  go_enter Try.func15, Try.ntmps15
  go_wp2_with fail
  refine (C1.out _).mono ?_
  rintro e w1 ⟨rfl, hb1⟩
  go_wp2
  go_ret
  exact ⟨by simp, hb1.alloc hb1.size _⟩

set_option maxRecDepth 100000 in
set_option maxHeartbeats 2000000 in
theorem shiftTwo_core (s0 s : ByteArray) (k a l c : Int) (b d : UInt8) (hs : s.size ≤ 198) (cs : ∀ w, Calls Try.prog 16 #[.string s0, .int .i64 198] w fun e w' => e = .returned (.string s) ∧ w = w') (w : World) :
    Calls Try.prog 4 #[.string s0, .agg #[.int .i64 k, .int .i64 a, .int .u8 (b.toNat : Int)], .agg #[.int .i64 l, .int .i64 c, .int .u8 (d.toNat : Int)]] w fun e w' => e = .returned (.bool true) ∧ Below w.heap.size w w' := by
  have CS := Lib.hid cs
  clear cs
  by_cases hgood : chO s.size (k, a, b) = 0 ∧ chO s.size (l, c, d) = 0
  · obtain ⟨hx, hy⟩ := hgood
    obtain ⟨e1, e2, e3⟩ := shift_two (s := s.data.toList) hx hy (by show s.size < 199; omega)
    have h1 := do_ok s (k, a, b) hx
    have h2 := do_ok s (l, c, d) hy
    have h3 := past_ok s.size (k, a, b) (l, c, d) true hx hy
    have h4 := past_ok s.size (l, c, d) (k, a, b) false hy hx
    have h5 := do_ok (tb (doO s.data.toList (l, c, d))) (pst (k, a, b) (l, c, d) true) e1
    have h6 := do_ok (tb (doO s.data.toList (k, a, b))) (pst (l, c, d) (k, a, b) false) e2
    rw [tb_list, e3] at h5
    rw [tb_list] at h6
    generalize tb (doO (doO s.data.toList (k, a, b)) (pst (l, c, d) (k, a, b) false)) = R at *
    generalize pst (k, a, b) (l, c, d) true = z at *
    generalize pst (l, c, d) (k, a, b) false = v at *
    generalize tb (doO s.data.toList (k, a, b)) = A1 at *
    generalize tb (doO s.data.toList (l, c, d)) = B1 at *
    obtain ⟨zk, za, zb⟩ := z
    obtain ⟨vk, va, vb⟩ := v
    have H1 := Lib.hid h1
    have H2 := Lib.hid h2
    have H3 : Hid (∀ w, Calls Try.prog 17 #[.int .i64 s.size, .agg #[.int .i64 k, .int .i64 a, .int .u8 (b.toNat : Int)], .agg #[.int .i64 l, .int .i64 c, .int .u8 (d.toNat : Int)], .bool true] w fun e w' => e = .returned (.tuple #[.agg #[.int .i64 zk, .int .i64 za, .int .u8 (zb.toNat : Int)], .int .i64 0]) ∧ Below w.heap.size w w') := Lib.hid h3
    have H4 : Hid (∀ w, Calls Try.prog 17 #[.int .i64 s.size, .agg #[.int .i64 l, .int .i64 c, .int .u8 (d.toNat : Int)], .agg #[.int .i64 k, .int .i64 a, .int .u8 (b.toNat : Int)], .bool false] w fun e w' => e = .returned (.tuple #[.agg #[.int .i64 vk, .int .i64 va, .int .u8 (vb.toNat : Int)], .int .i64 0]) ∧ Below w.heap.size w w') := Lib.hid h4
    have H5 := Lib.hid h5
    have H6 := Lib.hid h6
    clear h1 h2 h3 h4 h5 h6 e1 e2 e3 hx hy hs
    go_enter Try.func4, Try.ntmps4
    go_wp2_with fail
    have hX := (Blk.new w 23 #[.int .i64 k, .int .i64 a, .int .u8 (b.toNat : Int)]).alloc (Obj.cells #[.int .i64 l, .int .i64 c, .int .u8 (d.toNat : Int)] 23)
    have hY := Blk.new (w.alloc (Obj.cells #[.int .i64 k, .int .i64 a, .int .u8 (b.toNat : Int)] 23)) 23 #[.int .i64 l, .int .i64 c, .int .u8 (d.toNat : Int)]
    have hbw := ((Below.refl w.heap.size w).alloc (Nat.le_refl _) (Obj.cells #[.int .i64 k, .int .i64 a, .int .u8 (b.toNat : Int)] 23)).alloc (by simp) (Obj.cells #[.int .i64 l, .int .i64 c, .int .u8 (d.toNat : Int)] 23)
    rw [show (w.alloc (Obj.cells #[.int .i64 k, .int .i64 a, .int .u8 (b.toNat : Int)] 23)).heap.size = w.heap.size + 1 from by simp] at hY
    generalize (w.alloc (Obj.cells #[.int .i64 k, .int .i64 a, .int .u8 (b.toNat : Int)] 23)).alloc (Obj.cells #[.int .i64 l, .int .i64 c, .int .u8 (d.toNat : Int)] 23) = W at *
    refine (shifts_any _).mono ?_
    rintro e w1 ⟨rfl, hb1⟩
    replace hX := hX.after hb1
    replace hY := hY.after hb1
    replace hbw := chain hb1 hbw
    clear hb1
    go_wp2_with fail
    refine (CS.out _).mono ?_
    rintro e w2 ⟨rfl, rfl⟩
    have x0 := hX.cell 0
    have x1 := hX.cell 1
    have x2 := hX.cell 2
    have y0 := hY.cell 0
    have y1 := hY.cell 1
    have y2 := hY.cell 2
    go_wp2_with fail
    refine (H1.out _).mono ?_
    rintro e w2 ⟨rfl, hb2⟩
    clear x0 x1 x2 y0 y1 y2
    replace hX := hX.after hb2
    replace hY := hY.after hb2
    replace hbw := chain hb2 hbw
    clear hb2
    have x0 := hX.cell 0
    have x1 := hX.cell 1
    have x2 := hX.cell 2
    have y0 := hY.cell 0
    have y1 := hY.cell 1
    have y2 := hY.cell 2
    go_wp2_with fail
    refine (H2.out _).mono ?_
    rintro e w3 ⟨rfl, hb3⟩
    clear x0 x1 x2 y0 y1 y2
    replace hX := hX.after hb3
    replace hY := hY.after hb3
    replace hbw := chain hb3 hbw
    clear hb3
    have x0 := hX.cell 0
    have x1 := hX.cell 1
    have x2 := hX.cell 2
    have y0 := hY.cell 0
    have y1 := hY.cell 1
    have y2 := hY.cell 2
    go_wp2_with fail
    refine (H3.out _).mono ?_
    rintro e w4 ⟨rfl, hb4⟩
    clear x0 x1 x2 y0 y1 y2
    replace hX := hX.after hb4
    replace hY := hY.after hb4
    replace hbw := chain hb4 hbw
    clear hb4
    have x0 := hX.cell 0
    have x1 := hX.cell 1
    have x2 := hX.cell 2
    have y0 := hY.cell 0
    have y1 := hY.cell 1
    have y2 := hY.cell 2
    clear x0 x1 x2 y0 y1 y2
    replace hX := hX.alloc (Obj.cells #[.int .i64 zk, .int .i64 za, .int .u8 (zb.toNat : Int)] 23)
    replace hY := hY.alloc (Obj.cells #[.int .i64 zk, .int .i64 za, .int .u8 (zb.toNat : Int)] 23)
    have hZ := Blk.new w4 23 #[.int .i64 zk, .int .i64 za, .int .u8 (zb.toNat : Int)]
    replace hbw := hbw.alloc hbw.size (Obj.cells #[.int .i64 zk, .int .i64 za, .int .u8 (zb.toNat : Int)] 23)
    have x0 := hX.cell 0
    have x1 := hX.cell 1
    have x2 := hX.cell 2
    have y0 := hY.cell 0
    have y1 := hY.cell 1
    have y2 := hY.cell 2
    go_wp2_with fail
    generalize w4.alloc (Obj.cells #[.int .i64 zk, .int .i64 za, .int .u8 (zb.toNat : Int)] 23) = W4 at *
    refine (H4.out _).mono ?_
    rintro e w5 ⟨rfl, hb5⟩
    replace hZ := (hZ.after hb5).alloc (Obj.cells #[.int .i64 vk, .int .i64 va, .int .u8 (vb.toNat : Int)] 23)
    have hV := Blk.new w5 23 #[.int .i64 vk, .int .i64 va, .int .u8 (vb.toNat : Int)]
    replace hbw := chain hb5 hbw
    replace hbw := hbw.alloc hbw.size (Obj.cells #[.int .i64 vk, .int .i64 va, .int .u8 (vb.toNat : Int)] 23)
    clear x0 x1 x2 y0 y1 y2 hX hY hb5
    have z0 := hZ.cell 0
    have z1 := hZ.cell 1
    have z2 := hZ.cell 2
    go_wp2_with fail
    generalize w5.alloc (Obj.cells #[.int .i64 vk, .int .i64 va, .int .u8 (vb.toNat : Int)] 23) = W5 at *
    refine (H5.out _).mono ?_
    rintro e w6 ⟨rfl, hb6⟩
    replace hV := hV.after hb6
    replace hbw := chain hb6 hbw
    clear z0 z1 z2 hZ hb6
    have v0 := hV.cell 0
    have v1 := hV.cell 1
    have v2 := hV.cell 2
    go_wp2_with fail
    refine (H6.out _).mono ?_
    rintro e w7 ⟨rfl, hb7⟩
    replace hbw := chain hb7 hbw
    clear v0 v1 v2 hV hb7
    have q0 : ([0, 0, 0, 0] : List Int).all (· == 0) = true := by decide
    have q1 : (R.toList == R.toList) = true := by simp
    go_wp2_with fail
    refine (good_fresh [0, 0, 0, 0] 4 4 rfl (by decide) _ _).mono ?_
    rintro e w8 ⟨rfl, hb8⟩
    replace hbw := chain hb8 hbw
    go_wp2
    go_ret
    exact ⟨by simp, hbw⟩
  · have hx1 : ∃ r : ByteArray, ∀ w, Calls Try.prog 18 #[.string s, .agg #[.int .i64 k, .int .i64 a, .int .u8 (b.toNat : Int)]] w fun e w' => e = .returned (.tuple #[.string r, .int .i64 (chO s.size (k, a, b))]) ∧ Below w.heap.size w w' := by
      by_cases h : chO s.size (k, a, b) = 0
      · exact ⟨_, fun w => by have := do_ok s (k, a, b) h w; rw [h]; exact this⟩
      · exact ⟨_, do_no s (k, a, b) h⟩
    have hy1 : ∃ r : ByteArray, ∀ w, Calls Try.prog 18 #[.string s, .agg #[.int .i64 l, .int .i64 c, .int .u8 (d.toNat : Int)]] w fun e w' => e = .returned (.tuple #[.string r, .int .i64 (chO s.size (l, c, d))]) ∧ Below w.heap.size w w' := by
      by_cases h : chO s.size (l, c, d) = 0
      · exact ⟨_, fun w => by have := do_ok s (l, c, d) h w; rw [h]; exact this⟩
      · exact ⟨_, do_no s (l, c, d) h⟩
    obtain ⟨r1, h1⟩ := hx1
    obtain ⟨r2, h2⟩ := hy1
    have hp1 : pastE s.size (k, a, b) (l, c, d) ≠ 0 := by
      unfold pastE
      split
      · assumption
      · rename_i hh; intro h; exact hgood ⟨Decidable.not_not.1 hh, h⟩
    have hp2 : pastE s.size (l, c, d) (k, a, b) ≠ 0 := by
      unfold pastE
      split
      · assumption
      · rename_i hh; intro h; exact hgood ⟨h, Decidable.not_not.1 hh⟩
    have h3 := past_no s.size (k, a, b) (l, c, d) true hp1
    have h4 := past_no s.size (l, c, d) (k, a, b) false hp2
    have q3 : (pastE s.size (k, a, b) (l, c, d) != 0) = true := by rw [bne_iff_ne]; exact hp1
    have q4 : (pastE s.size (l, c, d) (k, a, b) == 0) = false := by rw [beq_eq_false_iff_ne]; exact hp2
    have q5 : (pastE s.size (k, a, b) (l, c, d) == 0) = false := by rw [beq_eq_false_iff_ne]; exact hp1
    have hor : (chO s.size (k, a, b) != 0) = true ∨ (chO s.size (k, a, b) = 0 ∧ (chO s.size (l, c, d) != 0) = true) := by
      by_cases h : chO s.size (k, a, b) = 0
      · exact .inr ⟨h, by rw [bne_iff_ne]; exact fun h2 => hgood ⟨h, h2⟩⟩
      · exact .inl (by rw [bne_iff_ne]; exact h)
    generalize pastE s.size (k, a, b) (l, c, d) = E3 at *
    generalize pastE s.size (l, c, d) (k, a, b) = E4 at *
    generalize chO s.size (k, a, b) = E1 at *
    generalize chO s.size (l, c, d) = E2 at *
    have H1 := Lib.hid h1
    have H2 := Lib.hid h2
    have H3 : Hid (∀ w, Calls Try.prog 17 #[.int .i64 s.size, .agg #[.int .i64 k, .int .i64 a, .int .u8 (b.toNat : Int)], .agg #[.int .i64 l, .int .i64 c, .int .u8 (d.toNat : Int)], .bool true] w fun e w' => e = .returned (.tuple #[.agg #[.int .i64 0, .int .i64 0, .int .u8 0], .int .i64 E3]) ∧ Below w.heap.size w w') := Lib.hid h3
    have H4 : Hid (∀ w, Calls Try.prog 17 #[.int .i64 s.size, .agg #[.int .i64 l, .int .i64 c, .int .u8 (d.toNat : Int)], .agg #[.int .i64 k, .int .i64 a, .int .u8 (b.toNat : Int)], .bool false] w fun e w' => e = .returned (.tuple #[.agg #[.int .i64 0, .int .i64 0, .int .u8 0], .int .i64 E4]) ∧ Below w.heap.size w w') := Lib.hid h4
    clear h1 h2 h3 h4 hgood hp1 hp2 hs
    rcases hor with q1 | ⟨rfl, q1⟩ <;> (
      go_enter Try.func4, Try.ntmps4
      go_wp2_with fail
      have hX := (Blk.new w 23 #[.int .i64 k, .int .i64 a, .int .u8 (b.toNat : Int)]).alloc (Obj.cells #[.int .i64 l, .int .i64 c, .int .u8 (d.toNat : Int)] 23)
      have hY := Blk.new (w.alloc (Obj.cells #[.int .i64 k, .int .i64 a, .int .u8 (b.toNat : Int)] 23)) 23 #[.int .i64 l, .int .i64 c, .int .u8 (d.toNat : Int)]
      have hbw := ((Below.refl w.heap.size w).alloc (Nat.le_refl _) (Obj.cells #[.int .i64 k, .int .i64 a, .int .u8 (b.toNat : Int)] 23)).alloc (by simp) (Obj.cells #[.int .i64 l, .int .i64 c, .int .u8 (d.toNat : Int)] 23)
      rw [show (w.alloc (Obj.cells #[.int .i64 k, .int .i64 a, .int .u8 (b.toNat : Int)] 23)).heap.size = w.heap.size + 1 from by simp] at hY
      generalize (w.alloc (Obj.cells #[.int .i64 k, .int .i64 a, .int .u8 (b.toNat : Int)] 23)).alloc (Obj.cells #[.int .i64 l, .int .i64 c, .int .u8 (d.toNat : Int)] 23) = W at *
      refine (shifts_any _).mono ?_
      rintro e w1 ⟨rfl, hb1⟩
      replace hX := hX.after hb1
      replace hY := hY.after hb1
      replace hbw := chain hb1 hbw
      clear hb1
      go_wp2_with fail
      refine (CS.out _).mono ?_
      rintro e w2 ⟨rfl, rfl⟩
      have x0 := hX.cell 0
      have x1 := hX.cell 1
      have x2 := hX.cell 2
      have y0 := hY.cell 0
      have y1 := hY.cell 1
      have y2 := hY.cell 2
      go_wp2_with fail
      refine (H1.out _).mono ?_
      rintro e w2 ⟨rfl, hb2⟩
      clear x0 x1 x2 y0 y1 y2
      replace hX := hX.after hb2
      replace hY := hY.after hb2
      replace hbw := chain hb2 hbw
      clear hb2
      have x0 := hX.cell 0
      have x1 := hX.cell 1
      have x2 := hX.cell 2
      have y0 := hY.cell 0
      have y1 := hY.cell 1
      have y2 := hY.cell 2
      go_wp2_with fail
      refine (H2.out _).mono ?_
      rintro e w3 ⟨rfl, hb3⟩
      clear x0 x1 x2 y0 y1 y2
      replace hX := hX.after hb3
      replace hY := hY.after hb3
      replace hbw := chain hb3 hbw
      clear hb3
      have x0 := hX.cell 0
      have x1 := hX.cell 1
      have x2 := hX.cell 2
      have y0 := hY.cell 0
      have y1 := hY.cell 1
      have y2 := hY.cell 2
      go_wp2_with fail
      refine (H3.out _).mono ?_
      rintro e w4 ⟨rfl, hb4⟩
      clear x0 x1 x2 y0 y1 y2
      replace hX := hX.after hb4
      replace hY := hY.after hb4
      replace hbw := chain hb4 hbw
      clear hb4
      have x0 := hX.cell 0
      have x1 := hX.cell 1
      have x2 := hX.cell 2
      have y0 := hY.cell 0
      have y1 := hY.cell 1
      have y2 := hY.cell 2
      clear x0 x1 x2 y0 y1 y2
      replace hX := hX.alloc (Obj.cells #[.int .i64 0, .int .i64 0, .int .u8 0] 23)
      replace hY := hY.alloc (Obj.cells #[.int .i64 0, .int .i64 0, .int .u8 0] 23)
      replace hbw := hbw.alloc hbw.size (Obj.cells #[.int .i64 0, .int .i64 0, .int .u8 0] 23)
      have x0 := hX.cell 0
      have x1 := hX.cell 1
      have x2 := hX.cell 2
      have y0 := hY.cell 0
      have y1 := hY.cell 1
      have y2 := hY.cell 2
      go_wp2_with fail
      generalize w4.alloc (Obj.cells #[.int .i64 0, .int .i64 0, .int .u8 0] 23) = W4 at *
      refine (H4.out _).mono ?_
      rintro e w5 ⟨rfl, hb5⟩
      replace hbw := chain hb5 hbw
      replace hbw := hbw.alloc hbw.size (Obj.cells #[.int .i64 0, .int .i64 0, .int .u8 0] 23)
      clear x0 x1 x2 y0 y1 y2 hX hY hb5
      go_wp2
      go_ret
      exact ⟨rfl, hbw⟩)

theorem cut198_size (s : ByteArray) (n : Nat) : (s.extract 0 n).size ≤ n := by simp; omega
theorem shiftTwo_walk (s : ByteArray) (x y : Op3) (hs : s.size ≤ 140737488351232) (hx : OkOp x) (hy : OkOp y) (w : World) :
    Calls Try.prog 4 #[.string s, .agg (cOp x).toArray, .agg (cOp y).toArray] w fun e w' => e = .returned (.bool true) ∧ Below w.heap.size w w' := by
  obtain ⟨k, a, b⟩ := x
  obtain ⟨l, c, d⟩ := y
  exact shiftTwo_core s _ k a l c b d (cut198_size s 198) (cut_any s 198 (by decide) hs) w

end Go.Proofs.Ytpeplkjidljpmaa
