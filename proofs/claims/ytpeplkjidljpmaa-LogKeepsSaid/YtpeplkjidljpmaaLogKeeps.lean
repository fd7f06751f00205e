/- LogKeeps' walk: after a crash the log contains a prefix of the records, including all durable ones, and can be extended. -/
import Derived.Test.YtpeplkjidljpmaaLogBack
import Derived.Test.YtpeplkjidljpmaaClone
import Derived.OpenShut
namespace Go.Proofs.Ytpeplkjidljpmaa
open Go.RowKit
set_option linter.unusedVariables false

theorem frames_take_mono (L : List (List UInt8)) (i j : Nat) (h : i ≤ j) : (framesL (L.take i)).length ≤ (framesL (L.take j)).length := by
  have := frames_take_le (L.take j) i
  rwa [List.take_take, Nat.min_eq_left h] at this
/-- How many frames are whole. -/
theorem whole_frames (L : List (List UInt8)) (p : Nat) : ∀ N : Nat, N ≤ L.length → ∃ j, j ≤ N ∧ (framesL (L.take j)).length ≤ p ∧ (j < N → p < (framesL (L.take (j + 1))).length)
  | 0, _ => ⟨0, Nat.le_refl _, by simp [framesL], fun h => by omega⟩
  | N + 1, hN => by
    obtain ⟨j, h1, h2, h3⟩ := whole_frames L p N (by omega)
    by_cases hj : j < N
    · exact ⟨j, by omega, h2, fun _ => h3 hj⟩
    · obtain rfl : j = N := by omega
      by_cases hp : (framesL (L.take (j + 1))).length ≤ p
      · exact ⟨j + 1, Nat.le_refl _, hp, fun h => by omega⟩
      · exact ⟨j, by omega, h2, fun _ => by omega⟩

theorem append_any (g k : Nat) (d r : ByteArray) (hd : d.size ≤ 4000) : ∃ (E : Int) (d' : ByteArray), ((E = 0 ∧ r.size ≤ 1100 ∧ d'.data.toList = d.data.toList ++ frameL r.data.toList ∧ d'.size ≤ 4000) ∨ ((E == 0) = false ∧ (E != 0) = true ∧ d' = d)) ∧
    ∀ w, LogAt w g d k → Calls Try.prog 30 #[.pointer (some ⟨g, 0, none⟩), .string r] w fun e w' => e = .returned (.int .i64 E) ∧ LogAt w' g d' k ∧ Only g w w' := by
  by_cases hr : r.size ≤ 1100
  · by_cases hf : d.size + (r.size + 6) ≤ 4000
    · refine ⟨0, d ++ lb (frameL r.data.toList), .inl ⟨rfl, hr, by rw [list_app, lb_list], ?_⟩, append_ok g k d r hr hf⟩
      rw [ByteArray.size_append, lb_size, frame_len]; exact hf
    · exact ⟨11, d, .inr ⟨rfl, rfl, rfl⟩, append_full g k d r hr hd (by omega)⟩
  · exact ⟨2, d, .inr ⟨rfl, rfl, rfl⟩, append_large g k d r (by omega)⟩

set_option maxRecDepth 100000 in
set_option maxHeartbeats 1000000 in
theorem crash_no (g k : Nat) (d : ByteArray) (keep : Int) (hd : d.size ≤ 4000) (hk : k ≤ d.size) (hkeep : -9223372036854775808 ≤ keep ∧ keep ≤ 9223372036854775807) (hbad : keep < 0 ∨ (d.size : Int) - k < keep) (w : World) (h : LogAt w g d k) :
    Calls Try.prog 33 #[.pointer (some ⟨g, 0, none⟩), .int .i64 keep] w fun e w' => e = .returned (.int .i64 1) ∧ LogAt w' g d k ∧ Only g w w' := by
  have c0 : w.cell? ⟨g, 0, none⟩ = some (.string d) := Blk.cell h 0
  have c1 : w.cell? ⟨g, 1, none⟩ = some (.int .i64 (k : Int)) := Blk.cell h 1
  have hw : IntKind.i64.wrap ((d.size : Int) - (k : Int)) = (d.size : Int) - (k : Int) := by rw [IntKind.wrap_i64]; omega
  rcases hbad with hb | hb
  · have q1 : decide (keep < 0) = true := decide_eq_true hb
    go_enter Try.func33, Try.ntmps33
    go_wp2
    go_quiet (fail)
    go_wp2
    go_ret
    exact ⟨rfl, h, Only.drewN g w _⟩
  · have q1 : decide (keep < 0) = false := decide_eq_false (by omega)
    have q2 : decide ((d.size : Int) - (k : Int) < keep) = true := decide_eq_true hb
    go_enter Try.func33, Try.ntmps33
    go_wp2
    go_quiet (fail)
    go_wp2
    go_ret
    exact ⟨rfl, h, Only.drewN g w _⟩

set_option maxRecDepth 100000 in
set_option maxHeartbeats 1000000 in
theorem crash_ok (g k m : Nat) (d : ByteArray) (hd : d.size ≤ 4000) (hm : k + m ≤ d.size) (L : List (List UInt8)) (n : Nat) (hs : Scans (d.data.toList.take (k + m)) L n) (w : World) (h : LogAt w g d k) :
    Calls Try.prog 33 #[.pointer (some ⟨g, 0, none⟩), .int .i64 (m : Int)] w fun e w' => e = .returned (.int .i64 0) ∧ LogAt w' g (lb (framesL L)) n ∧ Only g w w' := by
  have c0 : w.cell? ⟨g, 0, none⟩ = some (.string d) := Blk.cell h 0
  have c1 : w.cell? ⟨g, 1, none⟩ = some (.int .i64 (k : Int)) := Blk.cell h 1
  have hw : IntKind.i64.wrap ((d.size : Int) - (k : Int)) = (d.size : Int) - (k : Int) := by rw [IntKind.wrap_i64]; omega
  obtain ⟨p, hp⟩ : ∃ p : Nat, p = k + m := ⟨_, rfl⟩
  have hw2 : IntKind.i64.wrap ((k : Int) + (m : Int)) = (p : Int) := by rw [IntKind.wrap_i64]; omega
  have hps : (p : Int) ≤ d.size := by omega
  have q1 : decide ((m : Int) < 0) = false := decide_eq_false (by omega)
  have q2 : decide ((d.size : Int) - (k : Int) < (m : Int)) = false := decide_eq_false (by omega)
  have hdl : d.data.toList.length = d.size := rfl
  have hdd : (d.extract 0 p).data.toList = d.data.toList.take (k + m) := by rw [Lib.extract_data, Nat.sub_zero, List.drop_zero, hp]
  have hsz : (d.extract 0 p).size = p := by simp; omega
  have hbd := scans_bound hs
  rw [List.length_take] at hbd
  have hnp : n ≤ p := by omega
  have hsc : ∀ w, Calls Try.prog 26 #[.string (d.extract 0 p)] w fun e w' => (∃ A c, e = .returned (.tuple #[.slice A L.length c, .int .i64 (n : Int)])) ∧ Below w.heap.size w w' := fun w => by
    have hs2 := hs
    rw [← hdd] at hs2
    have h1 := scan_ok (d.extract 0 p) (by rw [hsz]; omega) 700 (by decide) (disk_count (by rw [hsz]; omega)) w
    exact h1.mono fun e w' ⟨L', n', A, c, hL, he, _, hb, _⟩ => by
      obtain ⟨rfl, rfl⟩ := scans_one hL hs2
      exact ⟨⟨A, c, he⟩, hb⟩
  have hres : (d.extract 0 p).extract 0 n = lb (framesL L) := ba_ext (by
    rw [lb_list, Lib.extract_data, Nat.sub_zero, List.drop_zero, hdd]
    exact (scans_framed hs).1)
  have hns : (n : Int) ≤ (d.extract 0 p).size := by rw [hsz]; omega
  have Hsc := Lib.hid hsc
  have Hres := Lib.hid hres
  generalize L.length = q at *
  clear hbd hs hdl hdd hsc hres hp
  go_enter Try.func33, Try.ntmps33
  go_wp2
  go_quiet (fail)
  go_wp2
  go_quiet (fail)
  go_wp2_with fail
  generalize hS : d.extract 0 p = S at *
  refine (Hsc.out _).mono ?_
  rintro e w2 ⟨⟨A, c, rfl⟩, hb2⟩
  have hl2 : LogAt w2 g d k := (hb2.block g h.lt).trans h
  have ho2 : Only g w w2 := (Only.drewN g w _).trans (Only.of_below hb2)
  have d0 : w2.cell? ⟨g, 0, none⟩ = some (.string d) := Blk.cell hl2 0
  have d1 : w2.cell? ⟨g, 1, none⟩ = some (.int .i64 (k : Int)) := Blk.cell hl2 1
  have f0 := Blk.frozen hl2 0
  have f1 := Blk.frozen hl2 1
  clear hb2 c0 c1
  go_wp2
  go_ret
  refine ⟨rfl, ?_, ho2.trans ((Only.set 0 (.string (S.extract 0 n))).trans (Only.set 1 (.int .i64 (n : Int))))⟩
  rw [← Hres.out]
  exact Blk.set_ (Blk.set_ hl2 0 (.string (S.extract 0 n))) 1 (.int .i64 (n : Int))

theorem bts_snoc (T : List ByteArray) (r : ByteArray) : bts (T ++ [r]) = bts T ++ [r.data.toList] := by simp [bts]
theorem bts_max {T : List ByteArray} (h : ∀ r ∈ bts T, r.length ≤ 1100) (r : ByteArray) (hr : r.size ≤ 1100) : ∀ x ∈ bts (T ++ [r]), x.length ≤ 1100 := fun x hx => by
  rw [bts_snoc, List.mem_append, List.mem_singleton] at hx
  rcases hx with hx | rfl
  · exact h x hx
  · exact hr

set_option maxRecDepth 100000 in
set_option maxHeartbeats 8000000 in
theorem logKeeps_core (A : Option Addr) (len cap : Nat) (l : List ByteArray) (safe keep : Int) (next : ByteArray) (w : World) (hl : StrsIn w A len cap l) (hsafe : (Lit.int .i64 safe).wf = true) (hkeep : -9223372036854775808 ≤ keep ∧ keep ≤ 9223372036854775807) (hnx : next.size ≤ 140737488351232) :
    Calls Try.prog 10 #[.slice A len cap, .int .i64 safe, .int .i64 keep, .string next] w fun e w' => e = .returned (.bool true) ∧ Below w.heap.size w w' := by
  obtain ⟨hll, hrd, hlen, hok, hcap, hcapm, hnil⟩ := hl
  have Hll := Lib.hid hll
  have Hkeep := Lib.hid hkeep
  clear hll hok hcapm hnil hcap hkeep
  go_enter Try.func10, Try.ntmps10
  go_wp2_with fail
  refine (logs_any _).mono ?_
  rintro e w1 ⟨rfl, hb1⟩
  go_wp2_with fail
  refine (new_any _).mono ?_
  rintro e w2 ⟨rfl, hl2, hb2⟩
  have hbw2 := chain hb2 hb1
  have hg : w.heap.size ≤ w1.heap.size := hb1.size
  have hgB : w1.heap.size < w2.heap.size := hl2.lt
  have hwB : w.heap.size ≤ w2.heap.size := hbw2.size
  generalize hgg : w1.heap.size = g at *
  obtain ⟨B, hB⟩ : ∃ B, B = w2.heap.size := ⟨_, rfl⟩
  have hB2 : B ≤ w2.heap.size := by omega
  have hgB' : g < B := by omega
  have hwB' : w.heap.size ≤ B := by omega
  clear hgg hb1 hb2 hB hgB hwB
  go_wp2
  go_loopw [10, 11, 12, 13, 24] (fun tv sv _ _ i wr => ∃ (k m su : Nat) (T : List ByteArray) (d : ByteArray) (A' : Option Addr) (c' : Nat), k ≤ len ∧ m ≤ k ∧ su ≤ m ∧ i = .int .i64 k ∧ tv = .slice A' m c' ∧ sv = .int .i64 su ∧ Hid (T.length = m) ∧
      Hid (d.data.toList = framesL (bts T)) ∧ Hid (∀ r ∈ bts T, r.length ≤ 1100) ∧ d.size ≤ 4000 ∧ LogAt wr g d (framesL ((bts T).take su)).length ∧ wr.ownsRow B 9 1 (.slice A' m c') m (T.flatMap cStr) ∧ Below w.heap.size w wr ∧ B ≤ wr.heap.size) (fun _ _ _ _ i _ => len - (intOf i).toNat)
  case atStart => exact ⟨0, 0, 0, [], ⟨#[]⟩, none, 0, Nat.zero_le _, Nat.le_refl _, Nat.le_refl _, rfl, rfl, rfl, Lib.hid rfl, Lib.hid rfl, Lib.hid (by simp [bts]), by decide, hl2, World.ownsRow_nil _ _ _ _, hbw2, hB2⟩
  case round =>
    clear hl2 hbw2 hB2
    obtain ⟨k, m, su, T, d, A', c', hk, hmk, hsm, rfl, rfl, rfl, HT, HD, HM, hd4, hlog, hown, hbr, hBr⟩ := hrel
    by_cases hlt : k < len
    · have h := hrd.below hbr
      obtain ⟨b, o, rfl, hbB, hc⟩ := h.2 (by omega)
      have c0 := hc (k * 1 + 0) (by rw [flat_length cStr 1 cStr_len, Hll.out]; omega)
      rw [flat_getD cStr 1 cStr_len ByteArray.empty l k _ (by rw [Hll.out]; omega) (by omega)] at c0
      simp only [cStr, List.getD_cons_zero, Nat.mul_one, Nat.add_zero] at c0
      generalize l.getD k ByteArray.empty = r at *
      clear hc h
      have hne : (Value.slice A' m c').ownBlock ≠ some g := fun hh => by have := (hown.lt _ hh).1; omega
      obtain ⟨E, d', hcase, hap⟩ := append_any g (framesL ((bts T).take su)).length d r hd4
      have AP := Lib.hid hap
      have Hne := Lib.hid hne
      clear hap hne
      rcases hcase with ⟨rfl, hr, hd', hd4'⟩ | ⟨hE, _, rfl⟩
      · have hT1 : (T ++ [r]).length = m + 1 := by rw [List.length_append, HT.out]; rfl
        have hd2 : d'.data.toList = framesL (bts (T ++ [r])) := by rw [hd', bts_snoc, frames_snoc, HD.out]
        have hM2 := bts_max HM.out r hr
        have htk : (bts (T ++ [r])).take su = (bts T).take su := by rw [bts_snoc, List.take_append_of_le_length (by rw [bts_length, HT.out]; exact hsm)]
        have hall : (bts (T ++ [r])).take (m + 1) = bts (T ++ [r]) := List.take_of_length_le (by rw [bts_length, hT1]; exact Nat.le_refl _)
        have hds : d'.size = (framesL (bts (T ++ [r]))).length := by rw [← hd2]; rfl
        have HT1 := Lib.hid hT1
        have HD2 := Lib.hid hd2
        have HM2 := Lib.hid hM2
        have Htk := Lib.hid htk
        have Hall := Lib.hid hall
        have Hds := Lib.hid hds
        clear hd' hT1 hd2 hM2 htk hall hds
        go_wp2_with fail
        refine (AP.out _ hlog).mono ?_
        rintro e w3 ⟨rfl, hl3, ho3⟩
        have hb3 := Only.below hbr ho3 hg hbr.size
        have hown3 := hown.kept ho3 (.inr Hne.out)
        have hB3 : B ≤ w3.heap.size := Nat.le_trans hBr ho3.size
        clear hlog hown hbr hBr ho3
        by_cases hsf : (k : Int) = safe
        · have q1 : ((k : Int) == safe) = true := by rw [beq_iff_eq]; exact hsf
          have Hsf := Lib.hid hsf
          clear hsf
          go_wp2_with (first | (at_builtin; go_must (refine wpList_append_new _ 43 (.tmp 33) (.tmp 35) rfl rfl B 9 infoStrG Try.underlying43 rfl (by decide) A' m c' _ rfl hown3 #[.string r] 1 rfl rfl (by simp [Value.oneCell']) (by unfold maxLen; omega) (by omega) hB3 ?_); intro A3 c3 w4 hown4 hb4 hg4))
          have hl4 : LogAt w4 g d' (framesL ((bts T).take su)).length := Blk.grown hl3 hg4 Hne.out
          have hbw4 := hb3.trans (hb4.mono hwB')
          have hB4 : B ≤ w4.heap.size := Nat.le_trans hB3 hb4.size
          have hne4 : (Value.slice A3 (m + 1) c3).ownBlock ≠ some g := fun hh => by have := (hown4.lt _ hh).1; omega
          refine (sync_any g _ d' _ hl4).mono ?_
          rintro e w5 ⟨rfl, hl5, ho5⟩
          have hbw5 := Only.below hbw4 ho5 hg hbw4.size
          have hown5 := hown4.kept ho5 (.inr hne4)
          go_wp2
          go_roundw
          case rel =>
            refine ⟨k + 1, m + 1, m + 1, T ++ [r], d', A3, c3, by omega, by omega, Nat.le_refl _, by go_num, rfl, rfl, HT1, HD2, HM2, hd4', ?_, ?_, hbw5, Nat.le_trans hB4 ho5.size⟩
            · rw [Hall.out, ← Hds.out]; exact hl5
            · rw [flat_snoc]; exact hown5
          case measure => simp only [intOf]; omega
        · have q1 : ((k : Int) == safe) = false := by rw [beq_eq_false_iff_ne]; exact hsf
          clear hsf
          go_wp2_with (first | (at_builtin; go_must (refine wpList_append_new _ 43 (.tmp 33) (.tmp 35) rfl rfl B 9 infoStrG Try.underlying43 rfl (by decide) A' m c' _ rfl hown3 #[.string r] 1 rfl rfl (by simp [Value.oneCell']) (by unfold maxLen; omega) (by omega) hB3 ?_); intro A3 c3 w4 hown4 hb4 hg4))
          have hl4 : LogAt w4 g d' (framesL ((bts T).take su)).length := Blk.grown hl3 hg4 Hne.out
          have hbw4 := hb3.trans (hb4.mono hwB')
          have hB4 : B ≤ w4.heap.size := Nat.le_trans hB3 hb4.size
          go_roundw
          case rel =>
            refine ⟨k + 1, m + 1, su, T ++ [r], d', A3, c3, by omega, by omega, by omega, by go_num, rfl, rfl, HT1, HD2, HM2, hd4', ?_, ?_, hbw4, hB4⟩
            · rw [Htk.out]; exact hl4
            · rw [flat_snoc]; exact hown4
          case measure => simp only [intOf]; omega
      · have hall : (bts T).take m = bts T := List.take_of_length_le (by rw [bts_length, HT.out]; exact Nat.le_refl _)
        have hds : d'.size = (framesL (bts T)).length := by rw [← HD.out]; rfl
        have Hall := Lib.hid hall
        have Hds := Lib.hid hds
        clear hall hds
        go_wp2_with fail
        refine (AP.out _ hlog).mono ?_
        rintro e w3 ⟨rfl, hl3, ho3⟩
        have hb3 := Only.below hbr ho3 hg hbr.size
        have hown3 := hown.kept ho3 (.inr Hne.out)
        have hB3 : B ≤ w3.heap.size := Nat.le_trans hBr ho3.size
        clear hlog hown hbr hBr ho3
        by_cases hsf : (k : Int) = safe
        · have q1 : ((k : Int) == safe) = true := by rw [beq_iff_eq]; exact hsf
          have Hsf := Lib.hid hsf
          clear hsf
          go_wp2_with fail
          refine (sync_any g _ d' _ hl3).mono ?_
          rintro e w5 ⟨rfl, hl5, ho5⟩
          have hbw5 := Only.below hb3 ho5 hg hb3.size
          have hown5 := hown3.kept ho5 (.inr Hne.out)
          go_wp2
          go_roundw
          case rel =>
            refine ⟨k + 1, m, m, T, d', A', c', by omega, by omega, Nat.le_refl _, by go_num, rfl, rfl, HT, HD, HM, hd4, ?_, hown5, hbw5, Nat.le_trans hB3 ho5.size⟩
            rw [Hall.out, ← Hds.out]; exact hl5
          case measure => simp only [intOf]; omega
        · have q1 : ((k : Int) == safe) = false := by rw [beq_eq_false_iff_ne]; exact hsf
          clear hsf
          go_wp2
          go_roundw
          case rel => exact ⟨k + 1, m, su, T, d', A', c', by omega, by omega, hsm, by go_num, rfl, rfl, HT, HD, HM, hd4, hl3, hown3, hb3, hB3⟩
          case measure => simp only [intOf]; omega
    · obtain rfl : k = len := by omega
      have hdz : d.size = (framesL (bts T)).length := by rw [← HD.out]; rfl
      have hsu : (framesL ((bts T).take su)).length ≤ d.size := by rw [hdz]; exact frames_take_le _ _
      have hme : (bts T).length = m := by rw [bts_length]; exact HT.out
      have hne : (Value.slice A' m c').ownBlock ≠ some g := fun hh => by have := (hown.lt _ hh).1; omega
      have hcp := ownCapG hown
      have Hne := Lib.hid hne
      have Hdz := Lib.hid hdz
      have Hme := Lib.hid hme
      have Hcp := Lib.hid hcp
      generalize hS0 : (framesL ((bts T).take su)).length = S0 at *
      have HS0 := Lib.hid hS0
      clear hdz hme hne hcp hS0
      have hkp := Hkeep.out
      by_cases hbad : keep < 0 ∨ (d.size : Int) - S0 < keep
      · have CR := Lib.hid (crash_no g S0 d keep hd4 hsu hkp hbad)
        have hsall : Scans d.data.toList (bts T) (framesL (bts T)).length := by rw [HD.out]; exact scans_all _ HM.out
        have AL := Lib.hid (fun w h => all_own g S0 _ d hd4 (bts T) hsall w h)
        clear hsall hbad hkp
        go_wp2_with fail
        refine (CR.out _ hlog).mono ?_
        rintro e w3 ⟨rfl, hl3, ho3⟩
        have hb3 := Only.below hbr ho3 hg hbr.size
        have hown3 := hown.kept ho3 (.inr Hne.out)
        clear hown hbr hlog
        go_wp2_with fail
        refine (AL.out _ hl3).mono ?_
        rintro e w4 ⟨A2, c2, rfl, ho4, hb4⟩
        have hbw4 := chain hb4 hb3
        have hown4 := own_below hown3 hb4
        rw [Hme.out, bts_lb] at ho4
        rw [Hme.out]
        go_wp2_with fail
        refine (equalStr_any A2 A' m m c2 c' _ _ T T w4 (by omega) (by omega) HT.out HT.out (Reads.of_own ho4) (Reads.of_own hown4)).mono ?_
        rintro e w5 ⟨rfl, hb5⟩
        have hbw5 := chain hb5 hbw4
        go_wp2
        go_ret
        exact ⟨by simp, hbw5⟩
      obtain ⟨mm, rfl⟩ : ∃ mm : Nat, keep = mm := ⟨keep.toNat, by omega⟩
      have hmm : S0 + mm ≤ d.size := by omega
      obtain ⟨j, hj1, hj2, hj3⟩ := whole_frames (bts T) (S0 + mm) m (by rw [Hme.out]; exact Nat.le_refl _)
      have hsuj : su ≤ j := by
        refine Classical.byContradiction fun hh => ?_
        have h1 := hj3 (by omega)
        have h2 := frames_take_mono (bts T) (j + 1) su (by omega)
        rw [HS0.out] at h2
        omega
      have hjl : ((bts T).take j).length = j := by rw [List.length_take, Hme.out]; omega
      have hsc : Scans (d.data.toList.take (S0 + mm)) ((bts T).take j) (framesL ((bts T).take j)).length := by
        rw [HD.out]
        exact scans_frames (bts T) [] (S0 + mm) j HM.out (by rw [← Hdz.out]; exact hmm) (by rw [Hme.out]; exact hj1) hj2 (fun h => hj3 (by rw [Hme.out] at h; exact h))
      have hmapj : ((bts T).take j).map lb = T.take j := by rw [← bts_take, bts_lb]
      have hMj : ∀ r ∈ (bts T).take j, r.length ≤ 1100 := fun r hr => HM.out r (List.mem_of_mem_take hr)
      have CR := Lib.hid (crash_ok g S0 mm d hd4 hmm _ _ hsc)
      have hd1 : (lb (framesL ((bts T).take j))).size = (framesL ((bts T).take j)).length := rfl
      have hd14 : (lb (framesL ((bts T).take j))).size ≤ 4000 := by rw [hd1]; omega
      have hs1 : Scans (lb (framesL ((bts T).take j))).data.toList ((bts T).take j) (framesL ((bts T).take j)).length := by rw [lb_list]; exact scans_all _ hMj
      have AL := Lib.hid (fun k w h => all_own g k _ (lb (framesL ((bts T).take j))) hd14 _ hs1 w h)
      have SZ := Lib.hid (fun k w h => size_any g k (lb (framesL ((bts T).take j))) w h)
      rw [hd1] at SZ
      obtain ⟨E, d2, hcase, hap⟩ := append_any g (framesL ((bts T).take j)).length (lb (framesL ((bts T).take j))) next hd14
      rw [lb_list] at hcase
      have AP := Lib.hid hap
      have hall2 : E = 0 → next.size ≤ 1100 → d2.data.toList = framesL ((bts T).take j) ++ frameL next.data.toList → d2.size ≤ 4000 → ∀ k w, LogAt w g d2 k → Calls Try.prog 34 #[.pointer (some ⟨g, 0, none⟩)] w fun e w' =>
          ∃ A c, e = .returned (.slice A (j + 1) c) ∧ w'.ownsRow w.heap.size 9 1 (.slice A (j + 1) c) (j + 1) ((T.take j ++ [next]).flatMap cStr) ∧ Below w.heap.size w w' := fun _ hn1 hd2 hd24 k w h => by
        have hL : d2.data.toList = framesL ((bts T).take j ++ [next.data.toList]) := by rw [hd2, frames_snoc]
        have hsc2 : Scans d2.data.toList ((bts T).take j ++ [next.data.toList]) (framesL ((bts T).take j ++ [next.data.toList])).length := by
          rw [hL]
          refine scans_all _ fun r hr => ?_
          rw [List.mem_append, List.mem_singleton] at hr
          rcases hr with hr | rfl
          · exact hMj r hr
          · exact hn1
        have h1 := all_own g k _ d2 hd24 _ hsc2 w h
        rw [List.length_append, hjl, List.map_append, hmapj, List.map_singleton, lb_of] at h1
        exact h1
      have Hall2 := Lib.hid hall2
      have Hjl := Lib.hid hjl
      have Hmapj := Lib.hid hmapj
      generalize (framesL ((bts T).take j)).length = n0 at *
      generalize hD1 : lb (framesL ((bts T).take j)) = D1 at *
      have hTj : (T.take j).length = j := by rw [List.length_take, HT.out]; omega
      have HTj := Lib.hid hTj
      have Hsuj := hsuj
      have r1 : decide ((j : Int) < (su : Int)) = false := decide_eq_false (by omega)
      have r1n : decide (j < su) = false := decide_eq_false (by omega)
      have r2 : decide ((m : Int) < (j : Int)) = false := decide_eq_false (by omega)
      have r2n : decide (m < j) = false := decide_eq_false (by omega)
      have r3 : ((n0 : Int) != (n0 : Int)) = false := by simp
      clear hap hall2 hjl hmapj hs1 hd1 hd14 hsc hMj hj2 hj3 hkp hbad hTj hD1
      go_wp2_with fail
      refine (CR.out _ hlog).mono ?_
      rintro e w3 ⟨rfl, hl3, ho3⟩
      have hb3 := Only.below hbr ho3 hg hbr.size
      have hown3 := hown.kept ho3 (.inr Hne.out)
      have hB3 : B ≤ w3.heap.size := Nat.le_trans hBr ho3.size
      clear hown hbr hlog hBr ho3
      go_wp2_with fail
      refine (AL.out _ _ hl3).mono ?_
      rintro e w4 ⟨A2, c2, rfl, hn4, hb4⟩
      have hbw4 := chain hb4 hb3
      have hown4 := own_below hown3 hb4
      have hl4 := hl3.after hb4
      rw [Hjl.out, Hmapj.out] at hn4
      rw [Hjl.out]
      have hB4 : B ≤ w4.heap.size := Nat.le_trans hB3 hb4.size
      have hnn : (Value.slice A2 j c2).ownBlock ≠ some g := fun hh => by have := (hn4.lt _ hh).1; omega
      have Hnn := Lib.hid hnn
      clear hb4 hnn
      go_wp2_with fail
      refine (SZ.out _ _ hl4).mono ?_
      rintro e w5 ⟨rfl, hl5, ho5⟩
      have hb5 := Only.below hbw4 ho5 hg hbw4.size
      have hown5 := hown4.kept ho5 (.inr Hne.out)
      have hn5 := hn4.kept ho5 (.inr Hnn.out)
      clear hown4 hn4 hbw4 hl4 ho5
      obtain ⟨A3, hs3, hf3⟩ := slice_front 43 (by kernel_rfl) sizeStrG cStr_len (Reads.of_own hown5) HT.out hj1 Hcp.out
      have HQ := Lib.hid (equalStr_any A2 A3 j j c2 c' _ _ (T.take j) (T.take j) w5 (by omega) (by omega) HTj.out HTj.out (Reads.of_own hn5) hf3)
      clear hf3
      go_wp2_with fail
      refine HQ.out.mono ?_
      rintro e w6 ⟨rfl, hb6⟩
      have hbw6 := chain hb6 hb5
      have hl6 := hl5.after hb6
      have hn6 := own_below hn5 hb6
      have hB6 : g < w6.heap.size := hl6.lt
      clear hown5 hn5 hb5 hb6 hl5 HQ
      go_wp2_with fail
      refine (AP.out _ hl6).mono ?_
      rintro e w7 ⟨rfl, hl7, ho7⟩
      have hb7 := Only.below hbw6 ho7 hg hbw6.size
      have hn7 := hn6.kept ho7 (.inr Hnn.out)
      clear hn6 hbw6 hl6 ho7
      rcases hcase with ⟨rfl, hx1, hx2, hx3⟩ | ⟨_, hE, rfl⟩
      · have AL2 := Lib.hid (Hall2.out rfl hx1 hx2 hx3)
        clear hx2
        go_wp2_with fail
        refine (AL2.out _ _ hl7).mono ?_
        rintro e w8 ⟨A4, c4, rfl, hr8, hb8⟩
        have hbw8 := chain hb8 hb7
        have hn8 := own_below hn7 hb8
        go_wp2_with fail
        refine (cloneStr_any A2 j c2 w8.heap.size (T.take j) HTj.out (by omega) w8 (Reads.of_own hn8) (Nat.le_refl _)).mono ?_
        rintro e w9 ⟨A5, c5, rfl, hr9, hb9⟩
        have hbw9 := chain hb9 hbw8
        have hr89 := own_below hr8 hb9
        have hB9 : w8.heap.size ≤ w9.heap.size := hb9.size
        go_wp2_with (first | (at_builtin; go_must (refine wpList_append_new _ 43 (.tmp 96) (.tmp 98) rfl rfl w8.heap.size 9 infoStrG Try.underlying43 rfl (by decide) A5 j c5 _ rfl hr9 #[.string next] 1 rfl rfl (by simp [Value.oneCell']) (by unfold maxLen; omega) (by omega) hB9 ?_); intro A6 c6 w10 hr10 hb10 hg10))
        have hr810 : Reads w10 w8.heap.size A4 (j + 1) 1 ((T.take j ++ [next]).flatMap cStr) := (Reads.of_own hr8).below (hb9.trans hb10)
        have hbw10 := hbw9.trans (hb10.mono hbw8.size)
        have hr10' := Reads.of_own hr10
        rw [← show (T.take j ++ [next]).flatMap cStr = (T.take j).flatMap cStr ++ #[Value.string next].toList from by simp [cStr]] at hr10'
        have hl1 : (T.take j ++ [next]).length = j + 1 := by rw [List.length_append, HTj.out]; rfl
        refine (equalStr_any A4 A6 (j + 1) (j + 1) c4 c6 _ _ (T.take j ++ [next]) (T.take j ++ [next]) w10 (by omega) (by omega) hl1 hl1 hr810 hr10').mono ?_
        rintro e w11 ⟨rfl, hb11⟩
        have hbw11 := chain hb11 hbw10
        go_wp2
        go_ret
        exact ⟨by simp, hbw11⟩
      · go_wp2_with fail
        refine (AL.out _ _ hl7).mono ?_
        rintro e w8 ⟨A4, c4, rfl, hr8, hb8⟩
        have hbw8 := chain hb8 hb7
        have hn8 := own_below hn7 hb8
        rw [Hjl.out, Hmapj.out] at hr8
        rw [Hjl.out]
        go_wp2_with fail
        refine (equalStr_any A4 A2 j j c4 c2 _ _ (T.take j) (T.take j) w8 (by omega) (by omega) HTj.out HTj.out (Reads.of_own hr8) (Reads.of_own hn8)).mono ?_
        rintro e w9 ⟨rfl, hb9⟩
        have hbw9 := chain hb9 hbw8
        go_wp2
        go_ret
        exact ⟨by simp, hbw9⟩

theorem logKeeps_walk (A : Option Addr) (len cap : Nat) (l : List ByteArray) (safe keep : Int) (next : ByteArray) (w : World) (hl : StrsIn w A len cap l) (hsafe : (Lit.int .i64 safe).wf = true) (hkeep : (Lit.int .i64 keep).wf = true) (hnx : next.size ≤ 140737488351232) :
    Calls Try.prog 10 #[.slice A len cap, .int .i64 safe, .int .i64 keep, .string next] w fun e w' => e = .returned (.bool true) ∧ Below w.heap.size w w' := by
  have hb := bounds_i64 hkeep
  exact logKeeps_core A len cap l safe keep next w hl hsafe (by omega) hnx

end Go.Proofs.Ytpeplkjidljpmaa
