/- LogFull's walk: a record occupies its bytes plus six, and is rejected only if there is no space for them. -/
import Derived.Test.YtpeplkjidljpmaaLogDisk
import Derived.Test.YtpeplkjidljpmaaArgs
namespace Go.Proofs.Ytpeplkjidljpmaa
open Go.RowKit
set_option linter.unusedVariables false

set_option maxRecDepth 100000 in
set_option maxHeartbeats 4000000 in
theorem logFull_walk (A : Option Addr) (len cap : Nat) (l : List ByteArray) (w : World) (hl : StrsIn w A len cap l) :
    Calls Try.prog 8 #[.slice A len cap] w fun e w' => e = .returned (.bool true) ∧ Below w.heap.size w w' := by
  obtain ⟨hll, hrd, hlen, hok, hcap, hcapm, hnil⟩ := hl
  have Hll := Lib.hid hll
  have hsz : ∀ x ∈ l, x.size ≤ 140737488351232 := fun x hx => hok x hx
  have Hsz := Lib.hid hsz
  clear hll hok hcapm hnil hcap hsz
  go_enter Try.func8, Try.ntmps8
  go_wp2_with fail
  refine (logs_any _).mono ?_
  rintro e w1 ⟨rfl, hb1⟩
  go_wp2_with fail
  refine (new_any _).mono ?_
  rintro e w2 ⟨rfl, hl2, hb2⟩
  have hbw2 := chain hb2 hb1
  have hg : w.heap.size ≤ w1.heap.size := hb1.size
  generalize w1.heap.size = g at *
  go_wp2
  go_loopw [5, 6, 7, 8, 9, 10, 11, 19] (fun _ _ _ _ _ _ _ i wr => ∃ (k : Nat) (d : ByteArray), k ≤ len ∧ i = .int .i64 k ∧ LogAt wr g d 0 ∧ d.size ≤ 4000 ∧ Below w.heap.size w wr) (fun _ _ _ _ _ _ _ i _ => len - (intOf i).toNat)
  case atStart => exact ⟨0, ⟨#[]⟩, Nat.zero_le _, rfl, hl2, by decide, hbw2⟩
  case round =>
    clear hl2 hbw2 hb1 hb2
    obtain ⟨k, d, hk, rfl, hlog, hd4, hbr⟩ := hrel
    by_cases hlt : k < len
    · have h := hrd.below hbr
      obtain ⟨b, o, rfl, hbB, hc⟩ := h.2 (by omega)
      have c0 := hc (k * 1 + 0) (by rw [flat_length cStr 1 cStr_len, Hll.out]; omega)
      rw [flat_getD cStr 1 cStr_len ByteArray.empty l k _ (by rw [Hll.out]; omega) (by omega)] at c0
      simp only [cStr, List.getD_cons_zero, Nat.mul_one, Nat.add_zero] at c0
      have hx := Hsz.out (l.getD k ByteArray.empty) (by rw [getD_some _ _ _ (by rw [Hll.out]; omega)]; exact List.getElem_mem _)
      generalize l.getD k ByteArray.empty = r at *
      clear hc h
      by_cases hr : r.size ≤ 1100
      case neg =>
        have q1 : decide ((1100 : Int) < (r.size : Int)) = true := decide_eq_true (by omega)
        have q1n : decide (1100 < r.size) = true := decide_eq_true (by omega)
        have AP := Lib.hid (append_large g 0 d r (by omega))
        go_wp2_with fail
        refine (size_any g 0 d _ hlog).mono ?_
        rintro e w3 ⟨rfl, hl3, ho3⟩
        have hb3 := Only.below hbr ho3 hg hbr.size
        go_wp2_with fail
        refine (AP.out _ hl3).mono ?_
        rintro e w4 ⟨rfl, hl4, ho4⟩
        have hb4 := Only.below hb3 ho4 hg hb3.size
        go_wp2_with fail
        refine (size_any g 0 d _ hl4).mono ?_
        rintro e w5 ⟨rfl, hl5, ho5⟩
        have hb5 := Only.below hb4 ho5 hg hb4.size
        go_wp2
        go_roundw
        case rel => exact ⟨k + 1, d, by omega, by go_num, hl5, hd4, hb5⟩
        case measure => simp only [intOf]; omega
      have q1 : decide ((1100 : Int) < (r.size : Int)) = false := decide_eq_false (by omega)
      have q1n : decide (1100 < r.size) = false := decide_eq_false (by omega)
      by_cases hf : d.size + (r.size + 6) ≤ 4000
      · have q2 : decide ((4000 : Int) < (d.size : Int) + (r.size : Int) + 6) = false := decide_eq_false (by omega)
        have hds : (d ++ lb (frameL r.data.toList)).size = d.size + (r.size + 6) := by
          rw [ByteArray.size_append, lb_size, frame_len]; rfl
        have h5 := fun w h => size_any g 0 (d ++ lb (frameL r.data.toList)) w h
        rw [hds] at h5
        have H5 := Lib.hid h5
        have AP := Lib.hid (append_ok g 0 d r hr hf)
        have Hds := Lib.hid hds
        generalize d ++ lb (frameL r.data.toList) = d' at *
        have q3 : (((d.size + (r.size + 6) : Nat) : Int) != (d.size : Int) + ((r.size : Int) + 6)) = false := by rw [bne_eq_false_iff_eq]; omega
        clear h5 hds
        go_wp2_with fail
        refine (size_any g 0 d _ hlog).mono ?_
        rintro e w3 ⟨rfl, hl3, ho3⟩
        have hb3 := Only.below hbr ho3 hg hbr.size
        go_wp2_with fail
        refine (AP.out _ hl3).mono ?_
        rintro e w4 ⟨rfl, hl4, ho4⟩
        have hb4 := Only.below hb3 ho4 hg hb3.size
        go_wp2_with fail
        refine (H5.out _ hl4).mono ?_
        rintro e w5 ⟨rfl, hl5, ho5⟩
        have hb5 := Only.below hb4 ho5 hg hb4.size
        go_wp2
        go_roundw
        case rel => exact ⟨k + 1, d', by omega, by go_num, hl5, by rw [Hds.out]; exact hf, hb5⟩
        case measure => simp only [intOf]; omega
      · have q2 : decide ((4000 : Int) < (d.size : Int) + (r.size : Int) + 6) = true := decide_eq_true (by omega)
        have AP := Lib.hid (append_full g 0 d r hr hd4 (by omega))
        go_wp2_with fail
        refine (size_any g 0 d _ hlog).mono ?_
        rintro e w3 ⟨rfl, hl3, ho3⟩
        have hb3 := Only.below hbr ho3 hg hbr.size
        go_wp2_with fail
        refine (AP.out _ hl3).mono ?_
        rintro e w4 ⟨rfl, hl4, ho4⟩
        have hb4 := Only.below hb3 ho4 hg hb3.size
        go_wp2_with fail
        refine (size_any g 0 d _ hl4).mono ?_
        rintro e w5 ⟨rfl, hl5, ho5⟩
        have hb5 := Only.below hb4 ho5 hg hb4.size
        go_wp2
        go_roundw
        case rel => exact ⟨k + 1, d, by omega, by go_num, hl5, hd4, hb5⟩
        case measure => simp only [intOf]; omega
    · obtain rfl : k = len := by omega
      go_wp2
      go_ret
      exact ⟨rfl, hbr⟩

end Go.Proofs.Ytpeplkjidljpmaa
