import Derived.Test.YtaogegpfapfchaaGreatDoorDeskM05
import Derived.Test.YtaogegpfapfchaaGreatDoorDeskM06
import Derived.Test.YtaogegpfapfchaaGreatDoorDeskM02
import Derived.Test.YtaogegpfapfchaaGreatDoorDeskM04
import Derived.Deep.QuietTactic
import Derived.BigQuiet
import Derived.IntWalk
/- Several texts in one: XLogDisk XLogCrash XScriptWalk. -/
/- The walks of a log's methods, and the laws' helper logs. -/
namespace Go.Proofs.YtaogegpfapfchaaGreatDoor
open Go.RowKit
set_option linter.unusedVariables false

/-- A log lies there: its disk, and how much of it is safe. -/
def LogAt (w : World) (g : Nat) (d : ByteArray) (k : Nat) : Prop := Blk w g 162 #[.string d, .int .i64 (k : Int)]
/-- Nothing but that block has turned. -/
def Only (g : Nat) (w w' : World) : Prop := w.grownBy w' (some g)
theorem Only.of_below {g : Nat} {w w' : World} (h : Below w.heap.size w w') : Only g w w' := ⟨h.os, h.tape, h.output, h.size, fun k hk _ => h.block k hk⟩
theorem Only.below {B g : Nat} {a w w' : World} (hb : Below B a w) (h : Only g w w') (hB : B ≤ g) (hBw : B ≤ w.heap.size) : Below B a w' := hb.grown h hBw (fun k hk => by injection hk with hk; omega)
theorem Only.trans {g : Nat} {a b c : World} (h : Only g a b) (k : Only g b c) : Only g a c :=
  ⟨k.os.trans h.os, k.tape.trans h.tape, k.output.trans h.output, Nat.le_trans h.size k.size, fun i hi hne => (k.block i (Nat.lt_of_lt_of_le hi h.size) hne).trans (h.block i hi hne)⟩
theorem Only.set {g : Nat} {w : World} (i : Nat) (u : Value) : Only g w (w.setCell ⟨g, i, none⟩ u) := ⟨rfl, rfl, rfl, by rw [size_setCell]; exact Nat.le_refl _, fun k _ hne => Below.heap_setCell w ⟨g, i, none⟩ u k (by rintro rfl; exact hne rfl)⟩
theorem Only.refl (g : Nat) (w : World) : Only g w w := ⟨rfl, rfl, rfl, Nat.le_refl _, fun _ _ _ => rfl⟩
theorem Only.drewN (g : Nat) (w : World) (n : Nat) : Only g w (w.drewN n) := ⟨rfl, rfl, rfl, Nat.le_refl _, fun _ _ _ => rfl⟩
theorem LogAt.after {w w' : World} {g k : Nat} {d : ByteArray} (h : LogAt w g d k) (hb : Below w.heap.size w w') : LogAt w' g d k := Blk.after h hb
theorem LogAt.lt {w : World} {g k : Nat} {d : ByteArray} (h : LogAt w g d k) : g < w.heap.size := Blk.lt h

set_option maxHeartbeats 400000 in
theorem new_any (w : World) : Calls Tryz.prog 116 #[] w fun e w' => e = .returned (.pointer (some ⟨w.heap.size, 0, none⟩)) ∧ LogAt w' w.heap.size ⟨#[]⟩ 0 ∧ Below w.heap.size w w' := by
  go_enter Tryz.func116, Tryz.ntmps116
  go_wp2
  go_ret
  exact ⟨rfl, Blk.new w 162 #[.string ⟨#[]⟩, .int .i64 0], (Below.refl _ _).alloc (Nat.le_refl _) _⟩


set_option maxHeartbeats 400000 in
theorem append_large (g k : Nat) (d r : ByteArray) (hr : 1100 < r.size) (w : World) (h : LogAt w g d k) : Calls Tryz.prog 117 #[.pointer (some ⟨g, 0, none⟩), .string r] w fun e w' => e = .returned (.int .i64 2) ∧ LogAt w' g d k ∧ Only g w w' := by
  go_enter Tryz.func117, Tryz.ntmps117
  go_wp2_with fail
  refine (frame_no r hr _).mono ?_
  rintro e w1 ⟨rfl, rfl⟩
  go_wp2
  go_ret
  exact ⟨rfl, h, Only.refl _ _⟩

set_option maxRecDepth 100000 in
set_option maxHeartbeats 1000000 in
theorem append_full (g k : Nat) (d r : ByteArray) (hr : r.size ≤ 1100) (hd : d.size ≤ 4000) (hf : 4000 < d.size + (r.size + 6)) (w : World) (h : LogAt w g d k) : Calls Tryz.prog 117 #[.pointer (some ⟨g, 0, none⟩), .string r] w fun e w' => e = .returned (.int .i64 11) ∧ LogAt w' g d k ∧ Only g w w' := by
  have hz : (lb (frameL r.data.toList)).size = r.size + 6 := by rw [lb_size, frame_len]; rfl
  have H1 := Lib.hid (frame_ok r hr)
  generalize lb (frameL r.data.toList) = f at *
  have q1 : decide ((4000 : Int) < (d.size : Int) + (f.size : Int)) = true := decide_eq_true (by omega)
  have q1n : decide (4000 < d.size + f.size) = true := decide_eq_true (by omega)
  have hz3 : f.size ≤ 1106 := by omega
  have hd4 : d.size ≤ 4000 := by omega
  have Hz := Lib.hid hz
  clear hz
  go_enter Tryz.func117, Tryz.ntmps117
  go_wp2_with fail
  refine (H1.out _).mono ?_
  rintro e w1 ⟨rfl, hb1⟩
  have h1 := h.after hb1
  have c0 : w1.cell? ⟨g, 0, none⟩ = some (.string d) := Blk.cell h1 0
  go_wp2
  go_ret
  exact ⟨rfl, h1, Only.of_below hb1⟩

set_option maxRecDepth 100000 in
set_option maxHeartbeats 1000000 in
theorem append_ok (g k : Nat) (d r : ByteArray) (hr : r.size ≤ 1100) (hf : d.size + (r.size + 6) ≤ 4000) (w : World) (h : LogAt w g d k) : Calls Tryz.prog 117 #[.pointer (some ⟨g, 0, none⟩), .string r] w fun e w' => e = .returned (.int .i64 0) ∧ LogAt w' g (d ++ lb (frameL r.data.toList)) k ∧ Only g w w' := by
  have hz : (lb (frameL r.data.toList)).size = r.size + 6 := by rw [lb_size, frame_len]; rfl
  have H1 := Lib.hid (frame_ok r hr)
  generalize lb (frameL r.data.toList) = f at *
  have q1 : decide ((4000 : Int) < (d.size : Int) + (f.size : Int)) = false := decide_eq_false (by omega)
  have q1n : decide (4000 < d.size + f.size) = false := decide_eq_false (by omega)
  have hz2 : d.size + f.size ≤ 9223372036854775807 := by omega
  have hz3 : f.size ≤ 1106 := by omega
  have hd4 : d.size ≤ 4000 := by omega
  have Hz := Lib.hid hz
  clear hz
  go_enter Tryz.func117, Tryz.ntmps117
  go_wp2_with fail
  refine (H1.out _).mono ?_
  rintro e w1 ⟨rfl, hb1⟩
  have h1 := h.after hb1
  have c0 : w1.cell? ⟨g, 0, none⟩ = some (.string d) := Blk.cell h1 0
  have f0 := Blk.frozen h1 0
  go_wp2
  go_ret
  refine ⟨rfl, ?_, (Only.of_below hb1).trans ?_⟩
  · have := Blk.set_ h1 0 (.string (d ++ f))
    exact this
  · exact Only.set 0 (.string (d ++ f))

set_option maxHeartbeats 400000 in
theorem sync_any (g k : Nat) (d : ByteArray) (w : World) (h : LogAt w g d k) : Calls Tryz.prog 100 #[.pointer (some ⟨g, 0, none⟩)] w fun e w' => e = .returned (.tuple #[]) ∧ LogAt w' g d d.size ∧ Only g w w' := by
  have c0 : w.cell? ⟨g, 0, none⟩ = some (.string d) := Blk.cell h 0
  have c1 : w.cell? ⟨g, 1, none⟩ = some (.int .i64 (k : Int)) := Blk.cell h 1
  have f1 := Blk.frozen h 1
  go_enter Tryz.func100, Tryz.ntmps100
  go_wp2
  go_end0
  exact ⟨rfl, Blk.set_ h 1 (.int .i64 (d.size : Int)), Only.set 1 (.int .i64 (d.size : Int))⟩

/-- The records are told. -/
def ToldAll (s : List UInt8) (w : World) (e : Ending) (w' : World) : Prop := ∃ L n A c, Scans s L n ∧ e = .returned (.slice A L.length c) ∧
  Reads w' w'.heap.size A L.length 1 ((L.map lb).flatMap cStr) ∧ Below w.heap.size w w' ∧ L.length ≤ c
theorem disk_count {d : ByteArray} (hd : d.size ≤ 4000) : ∀ L n, Scans d.data.toList L n → L.length ≤ 700 := fun L n h => by
  have := scans_bound h
  have e : d.data.toList.length = d.size := rfl
  omega
set_option maxHeartbeats 400000 in
theorem all_any (g k : Nat) (d : ByteArray) (hd : d.size ≤ 4000) (w : World) (h : LogAt w g d k) : Calls Tryz.prog 123 #[.pointer (some ⟨g, 0, none⟩)] w (ToldAll d.data.toList w) := by
  have c0 : w.cell? ⟨g, 0, none⟩ = some (.string d) := Blk.cell h 0
  go_enter Tryz.func123, Tryz.ntmps123
  go_wp2_with fail
  refine (scan_ok d (by omega) 700 (by decide) (disk_count hd) _).mono ?_
  rintro e w1 ⟨L, n, A, c, hs, rfl, hr, hb, hc⟩
  generalize hm : L.length = m at *
  have Hm := Lib.hid hm
  clear hm
  go_wp2
  go_ret
  exact ⟨L, n, A, c, hs, by rw [Hm.out]; rfl, by rw [Hm.out]; exact hr, hb, by rw [Hm.out]; exact hc⟩

set_option maxHeartbeats 400000 in
theorem all_own (g k n : Nat) (d : ByteArray) (hd : d.size ≤ 4000) (L : List (List UInt8)) (hs : Scans d.data.toList L n) (w : World) (h : LogAt w g d k) : Calls Tryz.prog 123 #[.pointer (some ⟨g, 0, none⟩)] w fun e w' =>
    ∃ A c, e = .returned (.slice A L.length c) ∧ w'.ownsRow w.heap.size 9 1 (.slice A L.length c) L.length ((L.map lb).flatMap cStr) ∧ Below w.heap.size w w' := by
  have c0 : w.cell? ⟨g, 0, none⟩ = some (.string d) := Blk.cell h 0
  go_enter Tryz.func123, Tryz.ntmps123
  go_wp2_with fail
  refine (scan_own d (by omega) 700 (by decide) (disk_count hd) _).mono ?_
  rintro e w1 ⟨L', n', A, c, hs', rfl, hr, hb⟩
  obtain ⟨rfl, rfl⟩ := scans_one hs' hs
  generalize hm : L'.length = m at *
  have Hm := Lib.hid hm
  clear hm
  go_wp2
  go_ret
  exact ⟨A, c, by first | rfl | (rw [Hm.out]; rfl), by first | exact hr | (rw [Hm.out]; exact hr), hb⟩

end Go.Proofs.YtaogegpfapfchaaGreatDoor

/- What a log keeps behind a crash (split from XLogKeeps). -/
namespace Go.Proofs.YtaogegpfapfchaaGreatDoor
open Go.RowKit
set_option linter.unusedVariables false

theorem frames_take_mono (L : List (List UInt8)) (i j : Nat) (h : i ≤ j) : (framesL (L.take i)).length ≤ (framesL (L.take j)).length := by
  have := frames_take_le (L.take j) i
  rwa [List.take_take, Nat.min_eq_left h] at this
/-- How many frames are whole. -/
theorem whole_frames (L : List (List UInt8)) (p : Nat) : ∀ N : Nat, N ≤ L.length → ∃ j, j ≤ N ∧ (framesL (L.take j)).length ≤ p ∧ (j < N → p < (framesL (L.take (j + 1))).length)
  | 0, _ => ⟨0, Nat.le_refl _, by simp [framesL], fun h => by omega⟩
  | N + 1, hN => by
    obtain ⟨j, h1, h2, h3⟩ := whole_frames L p N (by omega)
    by_cases hj : j < N
    · exact ⟨j, by omega, h2, fun _ => h3 hj⟩
    · obtain rfl : j = N := by omega
      by_cases hp : (framesL (L.take (j + 1))).length ≤ p
      · exact ⟨j + 1, Nat.le_refl _, hp, fun h => by omega⟩
      · exact ⟨j, by omega, h2, fun _ => by omega⟩

theorem append_any (g k : Nat) (d r : ByteArray) (hd : d.size ≤ 4000) : ∃ (E : Int) (d' : ByteArray), ((E = 0 ∧ r.size ≤ 1100 ∧ d'.data.toList = d.data.toList ++ frameL r.data.toList ∧ d'.size ≤ 4000) ∨ ((E == 0) = false ∧ (E != 0) = true ∧ d' = d)) ∧
    ∀ w, LogAt w g d k → Calls Tryz.prog 117 #[.pointer (some ⟨g, 0, none⟩), .string r] w fun e w' => e = .returned (.int .i64 E) ∧ LogAt w' g d' k ∧ Only g w w' := by
  by_cases hr : r.size ≤ 1100
  · by_cases hf : d.size + (r.size + 6) ≤ 4000
    · refine ⟨0, d ++ lb (frameL r.data.toList), .inl ⟨rfl, hr, by rw [list_app, lb_list], ?_⟩, append_ok g k d r hr hf⟩
      rw [ByteArray.size_append, lb_size, frame_len]; exact hf
    · exact ⟨11, d, .inr ⟨rfl, rfl, rfl⟩, append_full g k d r hr hd (by omega)⟩
  · exact ⟨2, d, .inr ⟨rfl, rfl, rfl⟩, append_large g k d r (by omega)⟩

set_option maxRecDepth 100000 in
set_option maxHeartbeats 1000000 in
theorem crash_no (g k : Nat) (d : ByteArray) (keep : Int) (hd : d.size ≤ 4000) (hk : k ≤ d.size) (hkeep : -9223372036854775808 ≤ keep ∧ keep ≤ 9223372036854775807) (hbad : keep < 0 ∨ (d.size : Int) - k < keep) (w : World) (h : LogAt w g d k) :
    Calls Tryz.prog 102 #[.pointer (some ⟨g, 0, none⟩), .int .i64 keep] w fun e w' => e = .returned (.int .i64 1) ∧ LogAt w' g d k ∧ Only g w w' := by
  have c0 : w.cell? ⟨g, 0, none⟩ = some (.string d) := Blk.cell h 0
  have c1 : w.cell? ⟨g, 1, none⟩ = some (.int .i64 (k : Int)) := Blk.cell h 1
  have hw : IntKind.i64.wrap ((d.size : Int) - (k : Int)) = (d.size : Int) - (k : Int) := by rw [IntKind.wrap_i64]; omega
  rcases hbad with hb | hb
  · have q1 : decide (keep < 0) = true := decide_eq_true hb
    go_enter Tryz.func102, Tryz.ntmps102
    go_wp2
    go_quiet (fail)
    go_wp2
    go_ret
    exact ⟨rfl, h, Only.drewN g w _⟩
  · have q1 : decide (keep < 0) = false := decide_eq_false (by omega)
    have q2 : decide ((d.size : Int) - (k : Int) < keep) = true := decide_eq_true hb
    go_enter Tryz.func102, Tryz.ntmps102
    go_wp2
    go_quiet (fail)
    go_wp2
    go_ret
    exact ⟨rfl, h, Only.drewN g w _⟩

set_option maxRecDepth 100000 in
set_option maxHeartbeats 1000000 in
theorem crash_ok (g k m : Nat) (d : ByteArray) (hd : d.size ≤ 4000) (hm : k + m ≤ d.size) (L : List (List UInt8)) (n : Nat) (hs : Scans (d.data.toList.take (k + m)) L n) (w : World) (h : LogAt w g d k) :
    Calls Tryz.prog 102 #[.pointer (some ⟨g, 0, none⟩), .int .i64 (m : Int)] w fun e w' => e = .returned (.int .i64 0) ∧ LogAt w' g (lb (framesL L)) n ∧ Only g w w' := by
  have c0 : w.cell? ⟨g, 0, none⟩ = some (.string d) := Blk.cell h 0
  have c1 : w.cell? ⟨g, 1, none⟩ = some (.int .i64 (k : Int)) := Blk.cell h 1
  have hw : IntKind.i64.wrap ((d.size : Int) - (k : Int)) = (d.size : Int) - (k : Int) := by rw [IntKind.wrap_i64]; omega
  obtain ⟨p, hp⟩ : ∃ p : Nat, p = k + m := ⟨_, rfl⟩
  have hw2 : IntKind.i64.wrap ((k : Int) + (m : Int)) = (p : Int) := by rw [IntKind.wrap_i64]; omega
  have hps : (p : Int) ≤ d.size := by omega
  have q1 : decide ((m : Int) < 0) = false := decide_eq_false (by omega)
  have q2 : decide ((d.size : Int) - (k : Int) < (m : Int)) = false := decide_eq_false (by omega)
  have hdl : d.data.toList.length = d.size := rfl
  have hdd : (d.extract 0 p).data.toList = d.data.toList.take (k + m) := by rw [Lib.extract_data, Nat.sub_zero, List.drop_zero, hp]
  have hsz : (d.extract 0 p).size = p := by simp; omega
  have hbd := scans_bound hs
  rw [List.length_take] at hbd
  have hnp : n ≤ p := by omega
  have hsc : ∀ w, Calls Tryz.prog 122 #[.string (d.extract 0 p)] w fun e w' => (∃ A c, e = .returned (.tuple #[.slice A L.length c, .int .i64 (n : Int)])) ∧ Below w.heap.size w w' := fun w => by
    have hs2 := hs
    rw [← hdd] at hs2
    have h1 := scan_ok (d.extract 0 p) (by rw [hsz]; omega) 700 (by decide) (disk_count (by rw [hsz]; omega)) w
    exact h1.mono fun e w' ⟨L', n', A, c, hL, he, _, hb, _⟩ => by
      obtain ⟨rfl, rfl⟩ := scans_one hL hs2
      exact ⟨⟨A, c, he⟩, hb⟩
  have hres : (d.extract 0 p).extract 0 n = lb (framesL L) := ba_ext (by
    rw [lb_list, Lib.extract_data, Nat.sub_zero, List.drop_zero, hdd]
    exact (scans_framed hs).1)
  have hns : (n : Int) ≤ (d.extract 0 p).size := by rw [hsz]; omega
  have Hsc := Lib.hid hsc
  have Hres := Lib.hid hres
  generalize L.length = q at *
  clear hbd hs hdl hdd hsc hres hp
  go_enter Tryz.func102, Tryz.ntmps102
  go_wp2
  go_quiet (fail)
  go_wp2
  go_quiet (fail)
  go_wp2_with fail
  generalize hS : d.extract 0 p = S at *
  refine (Hsc.out _).mono ?_
  rintro e w2 ⟨⟨A, c, rfl⟩, hb2⟩
  have hl2 : LogAt w2 g d k := (hb2.block g h.lt).trans h
  have ho2 : Only g w w2 := (Only.drewN g w _).trans (Only.of_below hb2)
  have d0 : w2.cell? ⟨g, 0, none⟩ = some (.string d) := Blk.cell hl2 0
  have d1 : w2.cell? ⟨g, 1, none⟩ = some (.int .i64 (k : Int)) := Blk.cell hl2 1
  have f0 := Blk.frozen hl2 0
  have f1 := Blk.frozen hl2 1
  clear hb2 c0 c1
  go_wp2
  go_ret
  refine ⟨rfl, ?_, ho2.trans ((Only.set 0 (.string (S.extract 0 n))).trans (Only.set 1 (.int .i64 (n : Int))))⟩
  rw [← Hres.out]
  exact Blk.set_ (Blk.set_ hl2 0 (.string (S.extract 0 n))) 1 (.int .i64 (n : Int))
end Go.Proofs.YtaogegpfapfchaaGreatDoor

/- The walks of script.Check and script.number. -/
namespace Go.Proofs.YtaogegpfapfchaaGreatDoor
open Go.RowKit
set_option linter.unusedVariables false

/-- What script.Check tells. -/
def ToldCheck (l : List Ed) (w : World) (e : Ending) (w' : World) : Prop := ∃ E : Int, e = .returned (.int .i64 E) ∧ (E = 0 ↔ l.length ≤ 20 ∧ OkLs l) ∧ Below w.heap.size w w'

set_option maxHeartbeats 1000000 in
theorem scheck_any (A : Option Addr) (len c B0 : Nat) (l : List Ed) (hlen : len ≤ 4398046511104) (hl : l.length = len) (ho : ∀ x ∈ l, (-9223372036854775808 ≤ x.1 ∧ x.1 ≤ 9223372036854775807) ∧ (-9223372036854775808 ≤ x.2.1 ∧ x.2.1 ≤ 9223372036854775807) ∧ (x.2.2).size ≤ 140737488351232)
    (w : World) (h : Reads w B0 A len 3 (l.flatMap cEdit)) (hB0 : B0 ≤ w.heap.size) :
    Calls Tryz.prog 139 #[.slice A len c] w (ToldCheck l w) := by
  have Hl := Lib.hid hl
  clear hl
  by_cases h3 : 20 < len
  · have q3 : decide ((20 : Int) < (len : Int)) = true := decide_eq_true (by omega)
    go_enter Tryz.func139, Tryz.ntmps139
    go_wp2
    go_ret
    exact ⟨2, rfl, ⟨fun h => by omega, fun h => by have := Hl.out; omega⟩, Below.refl _ _⟩
  have q3 : decide ((20 : Int) < (len : Int)) = false := decide_eq_false (by omega)
  go_enter Tryz.func139, Tryz.ntmps139
  go_wp2
  go_loopw [4, 10] (fun _ i wr => ∃ k : Nat, k ≤ len ∧ i = .int .i64 k ∧ Hid (OkLs (l.take k)) ∧ Below w.heap.size w wr) (fun _ i _ => len - (intOf i).toNat)
  case atStart => exact ⟨0, Nat.zero_le _, rfl, Lib.hid (fun x hx => by simp at hx), Below.refl _ _⟩
  case round =>
    obtain ⟨k, hk, rfl, Hok, hbr⟩ := hrel
    by_cases hlt : k < len
    · have h := h.below' hbr hB0
      obtain ⟨b, o, rfl, hbB, hc⟩ := h.2 (by omega)
      have c0 := hc (k * 3 + 0) (by rw [flat_length cEdit 3 cEdit_len, Hl.out]; omega)
      have c1 := hc (k * 3 + 1) (by rw [flat_length cEdit 3 cEdit_len, Hl.out]; omega)
      have c2 := hc (k * 3 + 2) (by rw [flat_length cEdit 3 cEdit_len, Hl.out]; omega)
      have dE : Ed := (0, 0, ByteArray.empty)
      rw [flat_getD cEdit 3 cEdit_len dE l k _ (by rw [Hl.out]; omega) (by omega)] at c0 c1 c2
      simp only [cEdit, List.getD_cons_zero, List.getD_cons_succ, Nat.add_zero, ← Nat.add_assoc] at c0 c1 c2
      have hmem : l.getD k dE ∈ l := by rw [getD_some _ _ _ (by rw [Hl.out]; omega)]; exact List.getElem_mem _
      have hx := ho (l.getD k dE) hmem
      have htk := take_succ_getD l k dE (by rw [Hl.out]; omega)
      generalize l.getD k dE = x at *
      obtain ⟨at_, del, ins⟩ := x
      simp only at c0 c1 c2 hx
      obtain ⟨hx1, hx2, hx3⟩ := hx
      have Htk := Lib.hid htk
      have Hmem := Lib.hid hmem
      clear htk hmem hc
      have hbw := hbr.size
      by_cases hok : OkXs (at_, del, ins)
      · obtain ⟨⟨o1, o2⟩, ⟨o3, o4⟩, o5⟩ := hok
        simp only at o1 o2 o3 o4 o5
        have p1 : decide (at_ < 0) = false := decide_eq_false (by omega)
        have p2 : decide ((200 : Int) < at_) = false := decide_eq_false (by omega)
        have p3 : decide (del < 0) = false := decide_eq_false (by omega)
        have p4 : decide ((200 : Int) < del) = false := decide_eq_false (by omega)
        have p5 : decide ((40 : Int) < (ins.size : Int)) = false := decide_eq_false (by omega)
        have p5' : decide (40 < ins.size) = false := decide_eq_false (by omega)
        go_wp2
        go_roundw
        case rel => exact ⟨k + 1, by omega, by go_num, Lib.hid (fun y hy => by
          rw [Htk.out] at hy
          rcases List.mem_append.1 hy with hy | hy
          · exact Hok.out y hy
          · rw [List.mem_singleton.1 hy]; exact ⟨⟨o1, o2⟩, ⟨o3, o4⟩, o5⟩), hbr.alloc hbw _⟩
        case measure => simp [intOf]; omega
      · have hno : ¬ (l.length ≤ 20 ∧ OkLs l) := fun g => hok (g.2 _ Hmem.out)
        have Hno := Lib.hid hno
        have hfin : ∀ (E : Int) (w2 : World), E ≠ 0 → Below w.heap.size w w2 → ToldCheck l w (.returned (.int .i64 E)) w2 := fun E w2 hE hb => ⟨E, rfl, ⟨fun g => absurd g hE, fun g => absurd g Hno.out⟩, hb⟩
        have Hfin := Lib.hid hfin
        clear hno hfin
        by_cases p1 : at_ < 0
        · have p1 : decide (at_ < 0) = true := decide_eq_true (by omega)
          go_wp2
          go_ret
          exact Hfin.out 1 _ (by decide) (hbr.alloc hbw _)
        have p1 : decide (at_ < 0) = false := decide_eq_false (by omega)
        by_cases p2 : 200 < at_
        · have p2 : decide ((200 : Int) < at_) = true := decide_eq_true (by omega)
          go_wp2
          go_ret
          exact Hfin.out 1 _ (by decide) (hbr.alloc hbw _)
        have p2 : decide ((200 : Int) < at_) = false := decide_eq_false (by omega)
        by_cases p3 : del < 0
        · have p3 : decide (del < 0) = true := decide_eq_true (by omega)
          go_wp2
          go_ret
          exact Hfin.out 1 _ (by decide) (hbr.alloc hbw _)
        have p3 : decide (del < 0) = false := decide_eq_false (by omega)
        by_cases p4 : 200 < del
        · have p4 : decide ((200 : Int) < del) = true := decide_eq_true (by omega)
          go_wp2
          go_ret
          exact Hfin.out 1 _ (by decide) (hbr.alloc hbw _)
        have p4 : decide ((200 : Int) < del) = false := decide_eq_false (by omega)
        have hi : 40 < ins.size := by
          rcases Nat.lt_or_ge 40 ins.size with g | g
          · exact g
          · exact absurd ⟨⟨by have := of_decide_eq_false p1; show 0 ≤ at_; omega, by have := of_decide_eq_false p2; show at_ ≤ 200; omega⟩, ⟨by have := of_decide_eq_false p3; show 0 ≤ del; omega, by have := of_decide_eq_false p4; show del ≤ 200; omega⟩, g⟩ hok
        have p5 : decide ((40 : Int) < (ins.size : Int)) = true := decide_eq_true (by omega)
        have p5' : decide (40 < ins.size) = true := decide_eq_true hi
        go_wp2
        go_ret
        exact Hfin.out 2 _ (by decide) (hbr.alloc hbw _)
    · obtain rfl : len = k := by omega
      go_wp2
      go_ret
      exact ⟨0, rfl, ⟨fun _ => ⟨by rw [Hl.out]; omega, by have := Hok.out; rwa [← Hl.out, List.take_length] at this⟩, fun _ => rfl⟩, hbr⟩

/-- What number tells. -/
def ToldNum (s : ByteArray) (e : UInt8) (most : Nat) (w : World) (en : Ending) (w' : World) : Prop :=
  (∃ q, w' = w.drewN q) ∧ ((∃ (n : Nat) (r : ByteArray), en = .returned (.tuple #[.int .i64 (n : Int), .string r, .bool true]) ∧ NumOk s.data.toList e most n r.data.toList) ∨
    (∃ (n : Int) (r : ByteArray), en = .returned (.tuple #[.int .i64 n, .string r, .bool false]) ∧ ∀ m t, ¬ NumOk s.data.toList e most m t))
set_option maxHeartbeats 1000000 in
theorem number_any (s : ByteArray) (hs : s.size ≤ 140737488351232) (e : UInt8) (he : ¬ IsDig e) (most : Nat) (hm : most ≤ 1000) (w : World) :
    Calls Tryz.prog 141 #[.string s, .int .u8 (e.toNat : Int), .int .i64 (most : Int)] w (ToldNum s e most w) := by
  have He := Lib.hid he
  clear he
  go_enter Tryz.func141, Tryz.ntmps141
  go_wp2
  go_loopw [9, 10, 11, 14] (fun nv _ _ kv wr => ∃ k n : Nat, k ≤ s.size ∧ n ≤ most ∧ kv = .int .i64 k ∧ nv = .int .i64 n ∧ Hid (NumS s.data.toList most k n) ∧ ∃ q, wr = w.drewN q) (fun _ _ _ kv _ => s.size - (intOf kv).toNat)
  case atStart => exact ⟨0, 0, Nat.zero_le _, Nat.zero_le _, rfl, rfl, Lib.hid (nums_start _ _), 0, rfl⟩
  case round =>
    obtain ⟨k, n, hk, hn, rfl, rfl, Hs, q, rfl⟩ := hrel
    by_cases hlt : k < s.size
    · have hgk := getD_bytes s k hlt
      have Hgk := Lib.hid hgk
      clear hgk
      have hlt' : (k : Int) < (s.size : Int) := by omega
      have hc8 : (s[k].toNat : Int) < 256 := by have := s[k].toNat_lt; omega
      by_cases hce : s[k] = e
      · have q1 : ((s[k].toNat : Int) == (e.toNat : Int)) = true := by rw [hce]; simp
        have hse : s.data.toList.getD k 0 = e := by rw [Hgk.out, hce]
        have hwk : IntKind.i64.wrap ((k : Int) + 1) = ((k + 1 : Nat) : Int) := by rw [IntKind.wrap_i64]; omega
        have hk1 : ((k + 1 : Nat) : Int) ≤ (s.size : Int) := by omega
        obtain ⟨k', hk'⟩ : ∃ k', k + 1 = k' := ⟨_, rfl⟩
        rw [hk'] at hwk hk1
        have hs0 : (0 : Nat) < s.size := by omega
        have hs0' : (0 : Int) < (s.size : Int) := by omega
        have hg0 := getD_bytes s 0 hs0
        have hext : (s.extract k' s.size).data.toList = s.data.toList.drop (k + 1) := by
          rw [Lib.extract_data, hk', List.take_of_length_le]; rw [List.length_drop]; exact Nat.le_refl _
        have Hext := Lib.hid hext
        have Hse := Lib.hid hse
        have Hk' := Lib.hid hk'
        have Hg0 := Lib.hid hg0
        clear hce hse hext hk' hg0
        by_cases k0 : 0 < k
        · have p1 : decide ((0 : Int) < (k : Int)) = true := decide_eq_true (by omega)
          by_cases h48 : s[0] = 48
          · have p2 : ((s[0].toNat : Int) != 48) = false := by rw [h48]; rfl
            have H48 := Lib.hid h48
            clear h48
            by_cases k1 : k = 1
            · have p3 : ((k : Int) == 1) = true := by rw [k1]; rfl
              have hok := Hs.out.done He.out (by exact hlt) Hse.out ⟨k0, .inr k1⟩
              have Hok := Lib.hid hok
              clear hok k1
              go_wp2
              go_quiet (fail)
              clear hwk
              go_wp2
              go_ret3
              exact ⟨⟨_, World.drewN_drewN _ _ _⟩, .inl ⟨n, s.extract k' s.size, rfl, by rw [Hext.out]; exact Hok.out⟩⟩
            · have p3 : ((k : Int) == 1) = false := by rw [beq_eq_false_iff_ne]; omega
              have hok := Hs.out.bad0 He.out (by exact hlt) Hse.out (fun h => by
                rcases h.2 with g | g
                · exact g (by rw [Hg0.out]; exact H48.out)
                · exact k1 g)
              have Hok := Lib.hid hok
              clear hok k1
              go_wp2
              go_quiet (fail)
              clear hwk
              go_wp2
              go_ret3
              exact ⟨⟨_, World.drewN_drewN _ _ _⟩, .inr ⟨(n : Int), s.extract k' s.size, rfl, Hok.out⟩⟩
          · have p2 : ((s[0].toNat : Int) != 48) = true := by rw [bne_iff_ne]; intro g; exact h48 (UInt8.toNat_inj.1 (by show s[0].toNat = 48; omega))
            have hok := Hs.out.done He.out (by exact hlt) Hse.out ⟨k0, .inl (by rw [Hg0.out]; exact h48)⟩
            have Hok := Lib.hid hok
            clear hok h48
            go_wp2
            go_quiet (fail)
            clear hwk
            go_wp2
            go_ret3
            exact ⟨⟨_, World.drewN_drewN _ _ _⟩, .inl ⟨n, s.extract k' s.size, rfl, by rw [Hext.out]; exact Hok.out⟩⟩
        · have p1 : decide ((0 : Int) < (k : Int)) = false := decide_eq_false (by omega)
          have hok := Hs.out.bad0 He.out (by exact hlt) Hse.out (fun h => k0 h.1)
          have Hok := Lib.hid hok
          clear hok
          go_wp2
          go_quiet (fail)
          clear hwk
          go_wp2
          go_ret3
          exact ⟨⟨_, World.drewN_drewN _ _ _⟩, .inr ⟨(n : Int), s.extract k' s.size, rfl, Hok.out⟩⟩
      · have q1 : ((s[k].toNat : Int) == (e.toNat : Int)) = false := by rw [beq_eq_false_iff_ne]; intro g; exact hce (UInt8.toNat_inj.1 (by omega))
        by_cases hd : IsDig s[k]
        · obtain ⟨d1, d2⟩ := hd
          have p1 : decide ((s[k].toNat : Int) < 48) = false := decide_eq_false (by omega)
          have p2 : decide ((57 : Int) < (s[k].toNat : Int)) = false := decide_eq_false (by omega)
          have hdg : IsDig (s.data.toList.getD k 0) := by rw [Hgk.out]; exact ⟨d1, d2⟩
          obtain ⟨m, hm2⟩ : ∃ m, 10 * n + (s[k].toNat - 48) = m := ⟨_, rfl⟩
          have him : 10 * (n : Int) + ((s[k].toNat : Int) - 48) = (m : Int) := by omega
          by_cases hgt : most < m
          · have p3 : decide ((most : Int) < (m : Int)) = true := decide_eq_true (by omega)
            have p3' : decide (most < m) = true := decide_eq_true hgt
            have hok := Hs.out.bad2 He.out (by exact hlt) hdg (by rw [Hgk.out, hm2]; exact hgt)
            have Hok := Lib.hid hok
            clear hok hce hdg hm2
            go_wp2
            go_ret3
            exact ⟨⟨_, rfl⟩, .inr ⟨0, ⟨#[]⟩, rfl, Hok.out⟩⟩
          · have p3 : decide ((most : Int) < (m : Int)) = false := decide_eq_false (by omega)
            have p3' : decide (most < m) = false := decide_eq_false hgt
            have hok := Hs.out.step (by exact hlt) hdg (by rw [Hgk.out, hm2]; omega)
            rw [Hgk.out, hm2] at hok
            have Hok := Lib.hid hok
            clear hok hce hdg hm2
            go_wp2
            go_roundw
            case rel => exact ⟨k + 1, m, by omega, by omega, by go_num, by first | rfl | go_num, Hok, _, rfl⟩
            case measure => simp [intOf]; omega
        · have hdg : ¬ IsDig (s.data.toList.getD k 0) := by rw [Hgk.out]; exact hd
          have hok := Hs.out.bad1 He.out (by exact hlt) (by rw [Hgk.out]; exact hce) hdg
          have Hok := Lib.hid hok
          clear hok hce hdg
          by_cases h48 : (s[k].toNat : Int) < 48
          · have p1 : decide ((s[k].toNat : Int) < 48) = true := decide_eq_true h48
            go_wp2
            go_ret3
            exact ⟨⟨_, rfl⟩, .inr ⟨0, ⟨#[]⟩, rfl, Hok.out⟩⟩
          · have p1 : decide ((s[k].toNat : Int) < 48) = false := decide_eq_false h48
            have p2 : decide ((57 : Int) < (s[k].toNat : Int)) = true := decide_eq_true (by unfold IsDig at hd; omega)
            go_wp2
            go_ret3
            exact ⟨⟨_, rfl⟩, .inr ⟨0, ⟨#[]⟩, rfl, Hok.out⟩⟩
    · obtain rfl : k = s.size := by omega
      go_wp2
      go_ret3
      exact ⟨⟨_, rfl⟩, .inr ⟨0, ⟨#[]⟩, rfl, Hs.out.bad3 He.out⟩⟩
end Go.Proofs.YtaogegpfapfchaaGreatDoor

