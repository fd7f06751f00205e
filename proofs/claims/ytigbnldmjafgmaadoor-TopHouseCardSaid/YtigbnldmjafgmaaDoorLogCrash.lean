/- What a log keeps behind a crash (split from XLogKeeps). -/
import Derived.Test.YtigbnldmjafgmaaDoorLogDisk
namespace Go.Proofs.YtigbnldmjafgmaaDoor
open Go.RowKit
set_option linter.unusedVariables false

theorem frames_take_mono (L : List (List UInt8)) (i j : Nat) (h : i ≤ j) : (framesL (L.take i)).length ≤ (framesL (L.take j)).length := by
  have := frames_take_le (L.take j) i
  rwa [List.take_take, Nat.min_eq_left h] at this
/-- How many frames are whole. -/
theorem whole_frames (L : List (List UInt8)) (p : Nat) : ∀ N : Nat, N ≤ L.length → ∃ j, j ≤ N ∧ (framesL (L.take j)).length ≤ p ∧ (j < N → p < (framesL (L.take (j + 1))).length)
  | 0, _ => ⟨0, Nat.le_refl _, by simp [framesL], fun h => by omega⟩
  | N + 1, hN => by
    obtain ⟨j, h1, h2, h3⟩ := whole_frames L p N (by omega)
    by_cases hj : j < N
    · exact ⟨j, by omega, h2, fun _ => h3 hj⟩
    · obtain rfl : j = N := by omega
      by_cases hp : (framesL (L.take (j + 1))).length ≤ p
      · exact ⟨j + 1, Nat.le_refl _, hp, fun h => by omega⟩
      · exact ⟨j, by omega, h2, fun _ => by omega⟩

theorem append_any (g k : Nat) (d r : ByteArray) (hd : d.size ≤ 4000) : ∃ (E : Int) (d' : ByteArray), ((E = 0 ∧ r.size ≤ 1100 ∧ d'.data.toList = d.data.toList ++ frameL r.data.toList ∧ d'.size ≤ 4000) ∨ ((E == 0) = false ∧ (E != 0) = true ∧ d' = d)) ∧
    ∀ w, LogAt w g d k → Calls Tryd.prog 18 #[.pointer (some ⟨g, 0, none⟩), .string r] w fun e w' => e = .returned (.int .i64 E) ∧ LogAt w' g d' k ∧ Only g w w' := by
  by_cases hr : r.size ≤ 1100
  · by_cases hf : d.size + (r.size + 6) ≤ 4000
    · refine ⟨0, d ++ lb (frameL r.data.toList), .inl ⟨rfl, hr, by rw [list_app, lb_list], ?_⟩, append_ok g k d r hr hf⟩
      rw [ByteArray.size_append, lb_size, frame_len]; exact hf
    · exact ⟨11, d, .inr ⟨rfl, rfl, rfl⟩, append_full g k d r hr hd (by omega)⟩
  · exact ⟨2, d, .inr ⟨rfl, rfl, rfl⟩, append_large g k d r (by omega)⟩

set_option maxRecDepth 100000 in
set_option maxHeartbeats 1000000 in
theorem crash_no (g k : Nat) (d : ByteArray) (keep : Int) (hd : d.size ≤ 4000) (hk : k ≤ d.size) (hkeep : -9223372036854775808 ≤ keep ∧ keep ≤ 9223372036854775807) (hbad : keep < 0 ∨ (d.size : Int) - k < keep) (w : World) (h : LogAt w g d k) :
    Calls Tryd.prog 65 #[.pointer (some ⟨g, 0, none⟩), .int .i64 keep] w fun e w' => e = .returned (.int .i64 1) ∧ LogAt w' g d k ∧ Only g w w' := by
  have c0 : w.cell? ⟨g, 0, none⟩ = some (.string d) := Blk.cell h 0
  have c1 : w.cell? ⟨g, 1, none⟩ = some (.int .i64 (k : Int)) := Blk.cell h 1
  have hw : IntKind.i64.wrap ((d.size : Int) - (k : Int)) = (d.size : Int) - (k : Int) := by rw [IntKind.wrap_i64]; omega
  rcases hbad with hb | hb
  · have q1 : decide (keep < 0) = true := decide_eq_true hb
    go_enter Tryd.func65, Tryd.ntmps65
    go_wp2
    go_quiet (fail)
    go_wp2
    go_ret
    exact ⟨rfl, h, Only.drewN g w _⟩
  · have q1 : decide (keep < 0) = false := decide_eq_false (by omega)
    have q2 : decide ((d.size : Int) - (k : Int) < keep) = true := decide_eq_true hb
    go_enter Tryd.func65, Tryd.ntmps65
    go_wp2
    go_quiet (fail)
    go_wp2
    go_ret
    exact ⟨rfl, h, Only.drewN g w _⟩

set_option maxRecDepth 100000 in
set_option maxHeartbeats 1000000 in
theorem crash_ok (g k m : Nat) (d : ByteArray) (hd : d.size ≤ 4000) (hm : k + m ≤ d.size) (L : List (List UInt8)) (n : Nat) (hs : Scans (d.data.toList.take (k + m)) L n) (w : World) (h : LogAt w g d k) :
    Calls Tryd.prog 65 #[.pointer (some ⟨g, 0, none⟩), .int .i64 (m : Int)] w fun e w' => e = .returned (.int .i64 0) ∧ LogAt w' g (lb (framesL L)) n ∧ Only g w w' := by
  have c0 : w.cell? ⟨g, 0, none⟩ = some (.string d) := Blk.cell h 0
  have c1 : w.cell? ⟨g, 1, none⟩ = some (.int .i64 (k : Int)) := Blk.cell h 1
  have hw : IntKind.i64.wrap ((d.size : Int) - (k : Int)) = (d.size : Int) - (k : Int) := by rw [IntKind.wrap_i64]; omega
  obtain ⟨p, hp⟩ : ∃ p : Nat, p = k + m := ⟨_, rfl⟩
  have hw2 : IntKind.i64.wrap ((k : Int) + (m : Int)) = (p : Int) := by rw [IntKind.wrap_i64]; omega
  have hps : (p : Int) ≤ d.size := by omega
  have q1 : decide ((m : Int) < 0) = false := decide_eq_false (by omega)
  have q2 : decide ((d.size : Int) - (k : Int) < (m : Int)) = false := decide_eq_false (by omega)
  have hdl : d.data.toList.length = d.size := rfl
  have hdd : (d.extract 0 p).data.toList = d.data.toList.take (k + m) := by rw [Lib.extract_data, Nat.sub_zero, List.drop_zero, hp]
  have hsz : (d.extract 0 p).size = p := by simp; omega
  have hbd := scans_bound hs
  rw [List.length_take] at hbd
  have hnp : n ≤ p := by omega
  have hsc : ∀ w, Calls Tryd.prog 51 #[.string (d.extract 0 p)] w fun e w' => (∃ A c, e = .returned (.tuple #[.slice A L.length c, .int .i64 (n : Int)])) ∧ Below w.heap.size w w' := fun w => by
    have hs2 := hs
    rw [← hdd] at hs2
    have h1 := scan_ok (d.extract 0 p) (by rw [hsz]; omega) 700 (by decide) (disk_count (by rw [hsz]; omega)) w
    exact h1.mono fun e w' ⟨L', n', A, c, hL, he, _, hb, _⟩ => by
      obtain ⟨rfl, rfl⟩ := scans_one hL hs2
      exact ⟨⟨A, c, he⟩, hb⟩
  have hres : (d.extract 0 p).extract 0 n = lb (framesL L) := ba_ext (by
    rw [lb_list, Lib.extract_data, Nat.sub_zero, List.drop_zero, hdd]
    exact (scans_framed hs).1)
  have hns : (n : Int) ≤ (d.extract 0 p).size := by rw [hsz]; omega
  have Hsc := Lib.hid hsc
  have Hres := Lib.hid hres
  generalize L.length = q at *
  clear hbd hs hdl hdd hsc hres hp
  go_enter Tryd.func65, Tryd.ntmps65
  go_wp2
  go_quiet (fail)
  go_wp2
  go_quiet (fail)
  go_wp2_with fail
  generalize hS : d.extract 0 p = S at *
  refine (Hsc.out _).mono ?_
  rintro e w2 ⟨⟨A, c, rfl⟩, hb2⟩
  have hl2 : LogAt w2 g d k := (hb2.block g h.lt).trans h
  have ho2 : Only g w w2 := (Only.drewN g w _).trans (Only.of_below hb2)
  have d0 : w2.cell? ⟨g, 0, none⟩ = some (.string d) := Blk.cell hl2 0
  have d1 : w2.cell? ⟨g, 1, none⟩ = some (.int .i64 (k : Int)) := Blk.cell hl2 1
  have f0 := Blk.frozen hl2 0
  have f1 := Blk.frozen hl2 1
  clear hb2 c0 c1
  go_wp2
  go_ret
  refine ⟨rfl, ?_, ho2.trans ((Only.set 0 (.string (S.extract 0 n))).trans (Only.set 1 (.int .i64 (n : Int))))⟩
  rw [← Hres.out]
  exact Blk.set_ (Blk.set_ hl2 0 (.string (S.extract 0 n))) 1 (.int .i64 (n : Int))
end Go.Proofs.YtigbnldmjafgmaaDoor
