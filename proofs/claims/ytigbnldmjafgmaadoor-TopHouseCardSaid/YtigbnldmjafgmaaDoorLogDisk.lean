/- The walks of a log's methods, and the laws' helper logs. -/
import Derived.Test.YtigbnldmjafgmaaDoorLogWalk
import Derived.Test.YtigbnldmjafgmaaDoorEqual
namespace Go.Proofs.YtigbnldmjafgmaaDoor
open Go.RowKit
set_option linter.unusedVariables false

/-- A log lies there: its disk, and how much of it is safe. -/
def LogAt (w : World) (g : Nat) (d : ByteArray) (k : Nat) : Prop := Blk w g 79 #[.string d, .int .i64 (k : Int)]
/-- Nothing but that block has turned. -/
def Only (g : Nat) (w w' : World) : Prop := w.grownBy w' (some g)
theorem Only.of_below {g : Nat} {w w' : World} (h : Below w.heap.size w w') : Only g w w' := ⟨h.os, h.tape, h.output, h.size, fun k hk _ => h.block k hk⟩
theorem Only.below {B g : Nat} {a w w' : World} (hb : Below B a w) (h : Only g w w') (hB : B ≤ g) (hBw : B ≤ w.heap.size) : Below B a w' := hb.grown h hBw (fun k hk => by injection hk with hk; omega)
theorem Only.trans {g : Nat} {a b c : World} (h : Only g a b) (k : Only g b c) : Only g a c :=
  ⟨k.os.trans h.os, k.tape.trans h.tape, k.output.trans h.output, Nat.le_trans h.size k.size, fun i hi hne => (k.block i (Nat.lt_of_lt_of_le hi h.size) hne).trans (h.block i hi hne)⟩
theorem Only.set {g : Nat} {w : World} (i : Nat) (u : Value) : Only g w (w.setCell ⟨g, i, none⟩ u) := ⟨rfl, rfl, rfl, by rw [size_setCell]; exact Nat.le_refl _, fun k _ hne => Below.heap_setCell w ⟨g, i, none⟩ u k (by rintro rfl; exact hne rfl)⟩
theorem Only.refl (g : Nat) (w : World) : Only g w w := ⟨rfl, rfl, rfl, Nat.le_refl _, fun _ _ _ => rfl⟩
theorem Only.drewN (g : Nat) (w : World) (n : Nat) : Only g w (w.drewN n) := ⟨rfl, rfl, rfl, Nat.le_refl _, fun _ _ _ => rfl⟩
theorem LogAt.after {w w' : World} {g k : Nat} {d : ByteArray} (h : LogAt w g d k) (hb : Below w.heap.size w w') : LogAt w' g d k := Blk.after h hb
theorem LogAt.lt {w : World} {g k : Nat} {d : ByteArray} (h : LogAt w g d k) : g < w.heap.size := Blk.lt h

set_option maxHeartbeats 400000 in
theorem new_any (w : World) : Calls Tryd.prog 17 #[] w fun e w' => e = .returned (.pointer (some ⟨w.heap.size, 0, none⟩)) ∧ LogAt w' w.heap.size ⟨#[]⟩ 0 ∧ Below w.heap.size w w' := by
  go_enter Tryd.func17, Tryd.ntmps17
  go_wp2
  go_ret
  exact ⟨rfl, Blk.new w 79 #[.string ⟨#[]⟩, .int .i64 0], (Below.refl _ _).alloc (Nat.le_refl _) _⟩

set_option maxHeartbeats 400000 in
theorem size_any (g k : Nat) (d : ByteArray) (w : World) (h : LogAt w g d k) : Calls Tryd.prog 48 #[.pointer (some ⟨g, 0, none⟩)] w fun e w' => e = .returned (.tuple #[.int .i64 (d.size : Int), .int .i64 (k : Int)]) ∧ LogAt w' g d k ∧ Only g w w' := by
  have c0 : w.cell? ⟨g, 0, none⟩ = some (.string d) := Blk.cell h 0
  have c1 : w.cell? ⟨g, 1, none⟩ = some (.int .i64 (k : Int)) := Blk.cell h 1
  go_enter Tryd.func48, Tryd.ntmps48
  go_wp2
  go_quiet (fail)
  go_wp2
  go_ret2
  exact ⟨rfl, h, Only.drewN g w _⟩

set_option maxHeartbeats 400000 in
theorem append_large (g k : Nat) (d r : ByteArray) (hr : 1100 < r.size) (w : World) (h : LogAt w g d k) : Calls Tryd.prog 18 #[.pointer (some ⟨g, 0, none⟩), .string r] w fun e w' => e = .returned (.int .i64 2) ∧ LogAt w' g d k ∧ Only g w w' := by
  go_enter Tryd.func18, Tryd.ntmps18
  go_wp2_with fail
  refine (frame_no r hr _).mono ?_
  rintro e w1 ⟨rfl, rfl⟩
  go_wp2
  go_ret
  exact ⟨rfl, h, Only.refl _ _⟩

set_option maxRecDepth 100000 in
set_option maxHeartbeats 1000000 in
theorem append_full (g k : Nat) (d r : ByteArray) (hr : r.size ≤ 1100) (hd : d.size ≤ 4000) (hf : 4000 < d.size + (r.size + 6)) (w : World) (h : LogAt w g d k) : Calls Tryd.prog 18 #[.pointer (some ⟨g, 0, none⟩), .string r] w fun e w' => e = .returned (.int .i64 11) ∧ LogAt w' g d k ∧ Only g w w' := by
  have hz : (lb (frameL r.data.toList)).size = r.size + 6 := by rw [lb_size, frame_len]; rfl
  have H1 := Lib.hid (frame_ok r hr)
  generalize lb (frameL r.data.toList) = f at *
  have q1 : decide ((4000 : Int) < (d.size : Int) + (f.size : Int)) = true := decide_eq_true (by omega)
  have q1n : decide (4000 < d.size + f.size) = true := decide_eq_true (by omega)
  have hz3 : f.size ≤ 1106 := by omega
  have hd4 : d.size ≤ 4000 := by omega
  have Hz := Lib.hid hz
  clear hz
  go_enter Tryd.func18, Tryd.ntmps18
  go_wp2_with fail
  refine (H1.out _).mono ?_
  rintro e w1 ⟨rfl, hb1⟩
  have h1 := h.after hb1
  have c0 : w1.cell? ⟨g, 0, none⟩ = some (.string d) := Blk.cell h1 0
  go_wp2
  go_ret
  exact ⟨rfl, h1, Only.of_below hb1⟩

set_option maxRecDepth 100000 in
set_option maxHeartbeats 1000000 in
theorem append_ok (g k : Nat) (d r : ByteArray) (hr : r.size ≤ 1100) (hf : d.size + (r.size + 6) ≤ 4000) (w : World) (h : LogAt w g d k) : Calls Tryd.prog 18 #[.pointer (some ⟨g, 0, none⟩), .string r] w fun e w' => e = .returned (.int .i64 0) ∧ LogAt w' g (d ++ lb (frameL r.data.toList)) k ∧ Only g w w' := by
  have hz : (lb (frameL r.data.toList)).size = r.size + 6 := by rw [lb_size, frame_len]; rfl
  have H1 := Lib.hid (frame_ok r hr)
  generalize lb (frameL r.data.toList) = f at *
  have q1 : decide ((4000 : Int) < (d.size : Int) + (f.size : Int)) = false := decide_eq_false (by omega)
  have q1n : decide (4000 < d.size + f.size) = false := decide_eq_false (by omega)
  have hz2 : d.size + f.size ≤ 9223372036854775807 := by omega
  have hz3 : f.size ≤ 1106 := by omega
  have hd4 : d.size ≤ 4000 := by omega
  have Hz := Lib.hid hz
  clear hz
  go_enter Tryd.func18, Tryd.ntmps18
  go_wp2_with fail
  refine (H1.out _).mono ?_
  rintro e w1 ⟨rfl, hb1⟩
  have h1 := h.after hb1
  have c0 : w1.cell? ⟨g, 0, none⟩ = some (.string d) := Blk.cell h1 0
  have f0 := Blk.frozen h1 0
  go_wp2
  go_ret
  refine ⟨rfl, ?_, (Only.of_below hb1).trans ?_⟩
  · have := Blk.set_ h1 0 (.string (d ++ f))
    exact this
  · exact Only.set 0 (.string (d ++ f))

set_option maxHeartbeats 400000 in
theorem sync_any (g k : Nat) (d : ByteArray) (w : World) (h : LogAt w g d k) : Calls Tryd.prog 49 #[.pointer (some ⟨g, 0, none⟩)] w fun e w' => e = .returned (.tuple #[]) ∧ LogAt w' g d d.size ∧ Only g w w' := by
  have c0 : w.cell? ⟨g, 0, none⟩ = some (.string d) := Blk.cell h 0
  have c1 : w.cell? ⟨g, 1, none⟩ = some (.int .i64 (k : Int)) := Blk.cell h 1
  have f1 := Blk.frozen h 1
  go_enter Tryd.func49, Tryd.ntmps49
  go_wp2
  go_end0
  exact ⟨rfl, Blk.set_ h 1 (.int .i64 (d.size : Int)), Only.set 1 (.int .i64 (d.size : Int))⟩

/-- The records are told. -/
def ToldAll (s : List UInt8) (w : World) (e : Ending) (w' : World) : Prop := ∃ L n A c, Scans s L n ∧ e = .returned (.slice A L.length c) ∧
  Reads w' w'.heap.size A L.length 1 ((L.map lb).flatMap cStr) ∧ Below w.heap.size w w' ∧ L.length ≤ c
theorem disk_count {d : ByteArray} (hd : d.size ≤ 4000) : ∀ L n, Scans d.data.toList L n → L.length ≤ 700 := fun L n h => by
  have := scans_bound h
  have e : d.data.toList.length = d.size := rfl
  omega
set_option maxHeartbeats 400000 in
theorem all_any (g k : Nat) (d : ByteArray) (hd : d.size ≤ 4000) (w : World) (h : LogAt w g d k) : Calls Tryd.prog 19 #[.pointer (some ⟨g, 0, none⟩)] w (ToldAll d.data.toList w) := by
  have c0 : w.cell? ⟨g, 0, none⟩ = some (.string d) := Blk.cell h 0
  go_enter Tryd.func19, Tryd.ntmps19
  go_wp2_with fail
  refine (scan_ok d (by omega) 700 (by decide) (disk_count hd) _).mono ?_
  rintro e w1 ⟨L, n, A, c, hs, rfl, hr, hb, hc⟩
  generalize hm : L.length = m at *
  have Hm := Lib.hid hm
  clear hm
  go_wp2
  go_ret
  exact ⟨L, n, A, c, hs, by rw [Hm.out]; rfl, by rw [Hm.out]; exact hr, hb, by rw [Hm.out]; exact hc⟩

set_option maxHeartbeats 400000 in
theorem all_own (g k n : Nat) (d : ByteArray) (hd : d.size ≤ 4000) (L : List (List UInt8)) (hs : Scans d.data.toList L n) (w : World) (h : LogAt w g d k) : Calls Tryd.prog 19 #[.pointer (some ⟨g, 0, none⟩)] w fun e w' =>
    ∃ A c, e = .returned (.slice A L.length c) ∧ w'.ownsRow w.heap.size 9 1 (.slice A L.length c) L.length ((L.map lb).flatMap cStr) ∧ Below w.heap.size w w' := by
  have c0 : w.cell? ⟨g, 0, none⟩ = some (.string d) := Blk.cell h 0
  go_enter Tryd.func19, Tryd.ntmps19
  go_wp2_with fail
  refine (scan_own d (by omega) 700 (by decide) (disk_count hd) _).mono ?_
  rintro e w1 ⟨L', n', A, c, hs', rfl, hr, hb⟩
  obtain ⟨rfl, rfl⟩ := scans_one hs' hs
  generalize hm : L'.length = m at *
  have Hm := Lib.hid hm
  clear hm
  go_wp2
  go_ret
  exact ⟨A, c, by first | rfl | (rw [Hm.out]; rfl), by first | exact hr | (rw [Hm.out]; exact hr), hb⟩

set_option maxRecDepth 100000 in
set_option maxHeartbeats 1000000 in
theorem logs_any (w : World) : Calls Tryd.prog 16 #[] w fun e w' => e = .returned (.bool true) ∧ Below w.heap.size w w' := by
  have hd : (⟨#[]⟩ ++ lb (frameL (ByteArray.mk #[97, 98]).data.toList) : ByteArray) = lb (frameL [97, 98]) := ba_ext (by rw [list_app]; rfl)
  have a1 := fun g w h => append_ok g 0 ⟨#[]⟩ ⟨#[97, 98]⟩ (by decide) (by decide) w h
  rw [hd] at a1
  have hz : (lb (frameL [97, 98])).size = 8 := by rw [lb_size, frame_len]; rfl
  have hsc : Scans (lb (frameL [97, 98])).data.toList [[97, 98]] 8 := by
    have := scans_all [[97, 98]] (by decide)
    have e : framesL [[97, 98]] = frameL [97, 98] := by simp [framesL]
    rw [e, frame_len] at this
    exact this
  generalize lb (frameL [97, 98]) = D at *
  have s1 := fun g k w h => size_any g k D w h
  have y1 := fun g k w h => sync_any g k D w h
  rw [hz] at s1 y1
  have a2 := fun g k w h => all_any g k D (by rw [hz]; decide) w h
  have A1 := Lib.hid a1
  have S1 := Lib.hid s1
  have Y1 := Lib.hid y1
  have A2 := Lib.hid a2
  have HS := Lib.hid hsc
  clear a1 s1 y1 a2 hsc hz hd
  go_enter Tryd.func16, Tryd.ntmps16
  go_wp2_with fail
  refine (new_any _).mono ?_
  rintro e w1 ⟨rfl, hl1, hb1⟩
  go_wp2_with fail
  refine (A1.out _ _ hl1).mono ?_
  rintro e w2 ⟨rfl, hl2, ho2⟩
  have hbw2 := Only.below hb1 ho2 (Nat.le_refl _) hb1.size
  go_wp2_with fail
  refine (S1.out _ _ _ hl2).mono ?_
  rintro e w3 ⟨rfl, hl3, ho3⟩
  have hbw3 := Only.below hbw2 ho3 (Nat.le_refl _) hbw2.size
  go_wp2_with fail
  refine (Y1.out _ _ _ hl3).mono ?_
  rintro e w4 ⟨rfl, hl4, ho4⟩
  have hbw4 := Only.below hbw3 ho4 (Nat.le_refl _) hbw3.size
  go_wp2_with fail
  refine (S1.out _ _ _ hl4).mono ?_
  rintro e w5 ⟨rfl, hl5, ho5⟩
  have hbw5 := Only.below hbw4 ho5 (Nat.le_refl _) hbw4.size
  clear ho2 ho3 ho4 ho5 hbw2 hbw3 hbw4 hb1 hl1 hl2 hl3 hl4
  go_wp2_with fail
  refine (A2.out _ _ _ hl5).mono ?_
  rintro e w6 ⟨L, n, A, c, hs, rfl, hr, hb6, hc⟩
  obtain ⟨rfl, rfl⟩ := scans_one hs HS.out
  have hbw6 := chain hb6 hbw5
  go_wp2_with fail
  refine (equalStr_any A _ 1 1 c 1 _ _ [lb [97, 98]] [⟨#[97, 98]⟩] _ (by decide) (by decide) rfl rfl (hr.alloc (Nat.le_refl _) _) (Reads.of_fresh w6 #[.string ⟨#[97, 98]⟩] _ 1 1 rfl)).mono ?_
  rintro e w7 ⟨rfl, hb7⟩
  have hbw7 := (hbw6.alloc hbw6.size (.cells #[.string ⟨#[97, 98]⟩] 9)).trans (hb7.mono (by have := hbw6.size; simp; omega))
  go_wp2
  go_ret
  exact ⟨by simp; rfl, hbw7⟩

end Go.Proofs.YtigbnldmjafgmaaDoor
