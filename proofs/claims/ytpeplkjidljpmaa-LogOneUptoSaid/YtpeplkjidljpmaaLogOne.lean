/- LogOne's walk: framing scanned records reproduces the scanned prefix, and no complete frame follows it. -/
import Derived.Test.YtpeplkjidljpmaaLogBack
import Derived.Test.YtpeplkjidljpmaaPrefix
namespace Go.Proofs.Ytpeplkjidljpmaa
open Go.RowKit
set_option linter.unusedVariables false

set_option maxRecDepth 100000 in
set_option maxHeartbeats 4000000 in
theorem logOne_walk (s : ByteArray) (hs0 : s.size ≤ 140737488351232) (w : World) (hs : s.size ≤ 1048576) :
    Calls Try.prog 9 #[.string s] w fun e w' => e = .returned (.bool true) ∧ Below w.heap.size w w' := by
  have hcnt : ∀ L n, Scans s.data.toList L n → L.length ≤ 200000 := fun L n h => by
    have h1 := scans_bound h
    have e : s.data.toList.length = s.size := rfl
    omega
  have SC := Lib.hid (scan_ok s (by omega) 200000 (by decide) hcnt)
  have hsl : s.data.toList.length = s.size := rfl
  have HSL := Lib.hid hsl
  clear hcnt hsl
  go_enter Try.func9, Try.ntmps9
  go_wp2_with fail
  refine (logs_any _).mono ?_
  rintro e w1 ⟨rfl, hb1⟩
  go_wp2_with fail
  refine (SC.out _).mono ?_
  rintro e w2 ⟨L, n, A, c, hs1, rfl, hr, hb2, hc⟩
  have hbw2 := chain hb2 hb1
  obtain ⟨hbd1, hbd2, hbd3⟩ := scans_bound hs1
  obtain ⟨hfr1, hfr2⟩ := scans_framed hs1
  rw [HSL.out] at hbd1
  have hfl : (framesL L).length = n := by
    have := congrArg List.length hfr1
    rw [List.length_take, HSL.out] at this
    omega
  generalize hm : L.length = m at *
  have Hm := Lib.hid hm
  have Hb3 := Lib.hid hbd3
  have Hf1 := Lib.hid hfr1
  have Hf2 := Lib.hid hfr2
  have Hfl := Lib.hid hfl
  have hB2 := hbw2.size
  clear hm hbd3 hfr1 hfr2 hfl hs1 hb1 hb2 SC
  go_wp2
  go_loopw [5, 7, 8, 9, 21] (fun sv _ _ _ i wr => ∃ (k : Nat) (S : ByteArray), k ≤ m ∧ i = .int .i64 k ∧ sv = .string S ∧ Hid (S.data.toList = framesL (L.take k)) ∧ S.size ≤ 1106 * k ∧ Below w2.heap.size w2 wr) (fun _ _ _ _ i _ => m - (intOf i).toNat)
  case atStart => exact ⟨0, ⟨#[]⟩, Nat.zero_le _, rfl, rfl, Lib.hid rfl, Nat.le_refl _, Below.refl _ _⟩
  case round =>
    obtain ⟨k, S, hk, rfl, rfl, HS, hSs, hbr⟩ := hrel
    by_cases hlt : k < m
    · have h := hr.below' hbr (Nat.le_refl _)
      obtain ⟨b, o, rfl, hbB, hc0⟩ := h.2 (by omega)
      have c0 := hc0 (k * 1 + 0) (by rw [flat_length cStr 1 cStr_len, List.length_map, Hm.out]; omega)
      rw [flat_getD cStr 1 cStr_len ByteArray.empty (L.map lb) k _ (by rw [List.length_map, Hm.out]; omega) (by omega)] at c0
      simp only [cStr, List.getD_cons_zero, Nat.mul_one, Nat.add_zero] at c0
      have hgd : (L.map lb).getD k ByteArray.empty = lb (L.getD k []) := by
        rw [List.getD_eq_getElem?_getD, List.getElem?_map, List.getD_eq_getElem?_getD, List.getElem?_eq_getElem (by rw [Hm.out]; exact hlt)]; rfl
      rw [hgd] at c0
      have hrs : (lb (L.getD k [])).size ≤ 1100 := Hb3.out _ (by rw [List.getD_eq_getElem?_getD, List.getElem?_eq_getElem (by rw [Hm.out]; exact hlt)]; exact List.getElem_mem _)
      have hfs := frames_succ L k (by rw [Hm.out]; exact hlt)
      have FR := Lib.hid (frame_ok (lb (L.getD k [])) hrs)
      rw [lb_list] at FR
      have hfz : (lb (frameL (L.getD k []))).size ≤ 1106 := by rw [lb_size, frame_len]; have : (L.getD k []).length ≤ 1100 := hrs; omega
      have hS2 : (S ++ lb (frameL (L.getD k []))).data.toList = framesL (L.take (k + 1)) := by rw [list_app, lb_list, HS.out, hfs]
      have hS4 : (S ++ lb (frameL (L.getD k []))).size ≤ 1106 * (k + 1) := by rw [ByteArray.size_append]; omega
      have hca : ∀ w, (Op.stringOp .add S (lb (frameL (L.getD k [])))).run Try.prog w = .ok (.string (S ++ lb (frameL (L.getD k [])))) w := fun w => run_string_add_sum w _ _ (by omega)
      generalize S ++ lb (frameL (L.getD k [])) = S' at *
      generalize lb (frameL (L.getD k [])) = f at *
      generalize lb (L.getD k []) = r at *
      have HS2 := Lib.hid hS2
      clear hS2 hfs hc0 h hgd hrs
      go_wp2_with fail
      refine (FR.out _).mono ?_
      rintro e w3 ⟨rfl, hb3⟩
      have hb3' := hbr.trans (hb3.mono hbr.size)
      go_wp2
      go_roundw
      case rel => exact ⟨k + 1, S', by omega, by go_num, rfl, HS2, hS4, hb3'⟩
      case measure => simp only [intOf]; omega
    · obtain rfl : k = m := by omega
      have hLk : L.take k = L := List.take_of_length_le (by rw [Hm.out]; exact Nat.le_refl _)
      have hS := HS.out
      rw [hLk] at hS
      have hSz : S.size = n := by rw [← Hfl.out, ← hS]; rfl
      have hpre : preB s S = true := by
        rw [preB_iff, hS, ← Hf1.out]
        exact List.take_prefix _ _
      have q1 : ((n : Int) != (S.size : Int)) = false := by rw [hSz]; simp
      have hns : (n : Int) ≤ s.size := by omega
      have hdd : (s.extract n s.size).data.toList = s.data.toList.drop n := by rw [Lib.extract_data, List.take_of_length_le (by rw [List.length_drop]; exact Nat.le_refl _)]
      have hstop : Scans (s.extract n s.size).data.toList [] 0 := by rw [hdd]; exact .stop Hf2.out
      have S2 := Lib.hid (scan_ok (s.extract n s.size) (by simp; omega) 200000 (by decide) (fun L' n' h => by rw [(scans_one h hstop).1]; exact Nat.zero_le _))
      have HP := Lib.hid (hasPrefix_any s S (by omega) (by omega))
      rw [hpre] at HP
      have Hstop := Lib.hid hstop
      have hbw := hbw2.trans (hbr.mono hB2)
      clear hLk hS HS hSz hpre hdd hstop hbr
      go_wp2_with fail
      refine (HP.out _).mono ?_
      rintro e w3 ⟨rfl, hw3⟩
      subst hw3
      go_wp2_with fail
      refine (S2.out _).mono ?_
      rintro e w4 ⟨L', n', A', c', hs2, rfl, _, hb4, _⟩
      obtain ⟨rfl, rfl⟩ := scans_one hs2 Hstop.out
      have hbw4 := chain hb4 hbw
      go_wp2
      go_ret
      exact ⟨rfl, hbw4⟩

end Go.Proofs.Ytpeplkjidljpmaa
