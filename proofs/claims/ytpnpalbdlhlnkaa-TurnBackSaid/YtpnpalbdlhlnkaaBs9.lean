/- The walk of partialInsertionSortOrdered at bytes. -/
import Derived.Test.YtpnpalbdlhlnkaaBs0
import Derived.Sort.WalkA6
import Derived.Sort.WalkC
import Derived.Sort.WalkB2
import Derived.Deep.DeepCutAuto
import Derived.Deep.CutBlock
namespace Go.Proofs.Ytpnpalbdlhlnkaa
open Go.RowKit Go.Sort
set_option linter.unusedVariables false

set_option maxHeartbeats 6400000 in
set_option maxRecDepth 1000000 in
theorem bPIns (blk off cap a b : Nat) (d : Array UInt8) (w : World) (hH : Holds c8 w blk off d) (hab : a < b) (hb : b ≤ d.size) (hsz : d.size < 1000000000000) :
    Calls Try.prog 24 #[.slice (some ⟨blk, off, none⟩) d.size cap, .int .i64 a, .int .i64 b] w fun e w' => e = .returned (.bool (Sort.partialInsertionSort lt8 d a b).2) ∧ To8 w blk off (Sort.partialInsertionSort lt8 d a b).1 w' := by
  have HST := Lib.hid (show w = putRow c8 (Sort.ahead w 0) blk off d from (putRow_self _ _ _ _ _ hH).symm)
  have HH := Lib.hid hH
  clear hH
  go_enter Try.func24, Try.ntmps24
  go_wp2
  go_loopw [7, 8] (fun vi vs wr => ∃ (i s n : Nat) (dk : Array UInt8), vi = .int .i64 i ∧ vs = .int .i64 s ∧ s ≤ 5 ∧ a < i ∧ i ≤ b ∧ dk.size = d.size ∧ wr = putRow c8 (Sort.ahead w n) blk off dk ∧
      partialIns lt8 a b (5 - s) i dk = partialIns lt8 a b 5 (a + 1) d) (fun _ vs _ => 5 - (intOf vs).toNat)
  case atStart => exact ⟨a + 1, 0, 0, d, by go_num, rfl, by omega, by omega, by omega, rfl, HST.out, rfl⟩
  case round =>
    obtain ⟨i, s, n, dk, rfl, rfl, hs5, hai, hib, hsk, hwr, hO⟩ := hrel
    have HO := Lib.hid hO
    have HWR := Lib.hid hwr
    clear hO hwr
    have fam := Lib.hid (fun (wx : World) (n' : Nat) (dx : Array UInt8) (hx : dx.size = d.size) (h : wx = putRow c8 (Sort.ahead w n') blk off dx) => fam8 HH.out hx h)
    by_cases hs : s < 5
    · go_upto_block 2 with fail
      go_cut [7] from 17 to 34 (fun vi wx => ∃ (k n' : Nat), vi = .int .i64 k ∧ i ≤ k ∧ k ≤ b ∧ Hid (scanSorted lt8 dk b i = k) ∧ wx = putRow c8 (Sort.ahead w n') blk off dk)
      case first =>
        go_wp2_with fail
        go_loopw [7] (fun vi w2 => ∃ (k m : Nat), vi = .int .i64 k ∧ i ≤ k ∧ k ≤ b ∧ w2 = putRow c8 (Sort.ahead w m) blk off dk ∧ Hid (scanSorted lt8 dk b k = scanSorted lt8 dk b i)) (fun vi _ => b - (intOf vi).toNat)
        case atStart => exact ⟨i, n, rfl, Nat.le_refl _, hib, HWR.out, rfl⟩
        case round =>
          obtain ⟨k, m, rfl, hik, hkb, hw2, hS⟩ := hrel
          obtain ⟨G, hG, hcw, hfw⟩ := fam.out _ _ _ hsk hw2
          have HG := Lib.hid hG
          have HW := Lib.hid hw2
          clear hG hw2
          by_cases hlt : k < b
          · go_wp2_with fail
            go_big_quiet (first | (go_at_call 25; refine Calls.quiet_of_same (less8 _ _ _)))
            go_wp2
            · have ht : (!lt8 (G k) (G (k - 1))) = true := by assumption
              have hl : lt8 (G k) (G (k - 1)) = false := by simpa using ht
              go_roundw
              case rel => exact ⟨k + 1, m + nq, by go_num, by omega, by omega, drewN_world c8 HW.out nq, (scanSorted_go lt8 dk b k hlt (by rw [← HG.out, ← HG.out]; exact hl)).symm.trans hS.out⟩
              case measure => simp [intOf]; omega
            · have ht : (!lt8 (G k) (G (k - 1))) = false := by assumption
              have hl : lt8 (G k) (G (k - 1)) = true := by simpa using ht
              go_meet
              exact ⟨k, m + nq, rfl, hik, hkb, hS.out.symm.trans (scanSorted_stop lt8 dk b k (Or.inr (by rw [← HG.out, ← HG.out]; exact hl))), drewN_world c8 HW.out nq⟩
          · go_wp2_with fail
            go_big_quiet (first | (go_at_call 25; refine Calls.quiet_of_same (less8 _ _ _)))
            go_wp2
            go_meet
            exact ⟨k, m + nq, rfl, hik, hkb, hS.out.symm.trans (scanSorted_stop lt8 dk b k (Or.inl hlt)), drewN_world c8 HW.out nq⟩
      case rest =>
        obtain ⟨k, m, rfl, hik, hkb, hK, hw2⟩ := hcut
        have HK := Lib.hid hK.out
        have HW := Lib.hid hw2
        obtain ⟨G, hG, hcw, hfw⟩ := fam.out _ _ _ hsk hw2
        have HG := Lib.hid hG
        clear hG hw2 hK
        by_cases hkb' : k = b
        · have hv : Sort.partialInsertionSort lt8 d a b = (dk, true) := by
            unfold Sort.partialInsertionSort
            rw [← HO.out, pi_true lt8 a b s i dk hs (HK.out.trans hkb')]
          have HV := Lib.hid hv
          clear hv
          go_wp2_with fail
          all_goals go_ret
          exact ⟨by rw [HV.out]; rfl, m, by rw [HV.out]; exact HW.out⟩
        · by_cases h50 : b - a < 50
          · have hv : Sort.partialInsertionSort lt8 d a b = (dk, false) := by
              unfold Sort.partialInsertionSort
              rw [← HO.out, pi_short lt8 a b s i dk hs (by rw [HK.out]; exact hkb') h50]
            have HV := Lib.hid hv
            clear hv
            go_wp2_with fail
            all_goals go_ret
            exact ⟨by rw [HV.out]; rfl, m, by rw [HV.out]; exact HW.out⟩
          · go_upto_if 61 with (go_region)
            obtain ⟨W1, hW1⟩ : ∃ W1, W1 = ((wc.setCell ⟨blk, off + k, none⟩ (.int .u8 ((G (k - 1)).toNat : Int))).setCell ⟨blk, off + (k - 1), none⟩ (.int .u8 ((G k).toNat : Int))).drew := ⟨_, rfl⟩
            rw [← hW1]
            obtain ⟨d1, hd1⟩ : ∃ d1, d1 = swp dk k (k - 1) := ⟨_, rfl⟩
            have hw1 : W1 = putRow c8 (Sort.ahead w (m + 1)) blk off d1 := by
              rw [hW1, hd1, HW.out, HG.out k, HG.out (k - 1)]
              exact swap_worldA c8 w m 1 blk off dk k (k - 1) (by omega) (by omega)
            have hs1 : d1.size = d.size := by rw [hd1, size_swp]; exact hsk
            have HW1 := Lib.hid hw1
            have HD1 := Lib.hid hd1
            clear hW1 hw1 hd1 hcw hfw HG
            go_cut [9] from 62 to 94 (fun _ wx => ∃ (n' : Nat) (dj : Array UInt8), dj.size = d.size ∧ Hid (fixDown lt8 a k d1 = dj) ∧ wx = putRow c8 (Sort.ahead w n') blk off dj)
            case first =>
              by_cases hka : k - a ≥ 2
              · go_wp2_with fail
                go_loopw [9] (fun vj w2 => ∃ (j m2 : Nat) (dj : Array UInt8), vj = .int .i64 j ∧ j ≤ k - 1 ∧ dj.size = d.size ∧ w2 = putRow c8 (Sort.ahead w m2) blk off dj ∧ Hid (shiftDown lt8 j dj = shiftDown lt8 (k - 1) d1)) (fun vj _ => (intOf vj).toNat)
                case atStart => exact ⟨k - 1, m + 1, d1, by go_num, Nat.le_refl _, hs1, HW1.out, rfl⟩
                case round =>
                  obtain ⟨j, m2, dj, rfl, hjk, hsj, hw3, hDn⟩ := hrel
                  obtain ⟨G, hG, hcw, hfw⟩ := fam.out _ _ _ hsj hw3
                  have HG := Lib.hid hG
                  have HW3 := Lib.hid hw3
                  clear hG hw3
                  by_cases hj1 : 1 ≤ j
                  · go_wp2_with fail
                    go_big_quiet (first | (go_at_call 25; refine Calls.quiet_of_same (less8 _ _ _)))
                    go_wp2
                    · have ht : (!lt8 (G j) (G (j - 1))) = true := by assumption
                      have hl : lt8 (G j) (G (j - 1)) = false := by simpa using ht
                      go_meet
                      exact ⟨m2 + nq, dj, hsj, by unfold fixDown; rw [if_pos hka]; exact hDn.out.symm.trans (shiftDown_stop lt8 j dj (Or.inr (by rw [← HG.out, ← HG.out]; exact hl))), drewN_world c8 HW3.out nq⟩
                    · have ht : (!lt8 (G j) (G (j - 1))) = false := by assumption
                      have hl : lt8 (G j) (G (j - 1)) = true := by simpa using ht
                      go_region
                      all_goals go_wp2
                      go_roundw
                      case rel =>
                        refine ⟨j - 1, m2 + (nq + 1), swp dj j (j - 1), by go_num, by omega, by rw [size_swp]; exact hsj, ?_, ?_⟩
                        · rw [HW3.out, HG.out j, HG.out (j - 1)]
                          exact swap_worldA c8 w m2 (nq + 1) blk off dj j (j - 1) (by omega) (by omega)
                        · exact (shiftDown_go lt8 j dj hj1 (by rw [← HG.out, ← HG.out]; exact hl)).symm.trans hDn.out
                      case measure => simp [intOf]; omega
                  · go_wp2_with fail
                    go_meet
                    exact ⟨m2, dj, hsj, by unfold fixDown; rw [if_pos hka]; exact hDn.out.symm.trans (shiftDown_stop lt8 j dj (Or.inl (by omega))), HW3.out⟩
              · go_wp2_with fail
                go_meet
                exact ⟨m + 1, d1, hs1, by unfold fixDown; rw [if_neg hka]; trivial, HW1.out⟩
            case rest =>
              obtain ⟨m3, dj, hsj, hfd, hw3⟩ := hcut
              have HFD := Lib.hid hfd.out
              have HW3 := Lib.hid hw3
              clear hfd hw3
              by_cases hbk : b - k ≥ 2
              · go_wp2_with fail
                go_loopw [10] (fun vj w2 => ∃ (j m2 : Nat) (du : Array UInt8), vj = .int .i64 j ∧ k + 1 ≤ j ∧ j ≤ b ∧ du.size = d.size ∧ w2 = putRow c8 (Sort.ahead w m2) blk off du ∧ Hid (shiftUp lt8 b j du = shiftUp lt8 b (k + 1) dj)) (fun vj _ => b - (intOf vj).toNat)
                case atStart => exact ⟨k + 1, m3, dj, by go_num, Nat.le_refl _, by omega, hsj, HW3.out, rfl⟩
                case round =>
                  obtain ⟨j, m2, du, rfl, hkj, hjb, hsu, hw4, hUp⟩ := hrel
                  obtain ⟨G, hG, hcw, hfw⟩ := fam.out _ _ _ hsu hw4
                  have HG := Lib.hid hG
                  have HW4 := Lib.hid hw4
                  clear hG hw4
                  by_cases hj1 : j < b
                  · go_wp2_with fail
                    go_big_quiet (first | (go_at_call 25; refine Calls.quiet_of_same (less8 _ _ _)))
                    go_wp2
                    · have ht : (!lt8 (G j) (G (j - 1))) = true := by assumption
                      have hl : lt8 (G j) (G (j - 1)) = false := by simpa using ht
                      go_roundw
                      case rel =>
                        refine ⟨k, s + 1, m2 + nq, du, rfl, by go_num, by omega, by omega, hkb, hsu, drewN_world c8 HW4.out nq, ?_⟩
                        have hfu : fixUp lt8 b k dj = du := by unfold fixUp; rw [if_pos hbk]; exact hUp.out.symm.trans (shiftUp_stop lt8 b j du (Or.inr (by rw [← HG.out, ← HG.out]; exact hl)))
                        rw [← HO.out, pi_go lt8 a b s i k dk hs HK.out hkb' h50, ← HD1.out, HFD.out, hfu]
                      case measure => simp [intOf]; omega
                    · have ht : (!lt8 (G j) (G (j - 1))) = false := by assumption
                      have hl : lt8 (G j) (G (j - 1)) = true := by simpa using ht
                      go_region
                      all_goals go_wp2
                      go_roundw
                      case rel =>
                        refine ⟨j + 1, m2 + (nq + 1), swp du j (j - 1), by go_num, by omega, by omega, by rw [size_swp]; exact hsu, ?_, ?_⟩
                        · rw [HW4.out, HG.out j, HG.out (j - 1)]
                          exact swap_worldA c8 w m2 (nq + 1) blk off du j (j - 1) (by omega) (by omega)
                        · exact (shiftUp_go lt8 b j du hj1 (by rw [← HG.out, ← HG.out]; exact hl)).symm.trans hUp.out
                      case measure => simp [intOf]; omega
                  · go_wp2_with fail
                    go_roundw
                    case rel =>
                      refine ⟨k, s + 1, m2, du, rfl, by go_num, by omega, by omega, hkb, hsu, HW4.out, ?_⟩
                      have hfu : fixUp lt8 b k dj = du := by unfold fixUp; rw [if_pos hbk]; exact hUp.out.symm.trans (shiftUp_stop lt8 b j du (Or.inl hj1))
                      rw [← HO.out, pi_go lt8 a b s i k dk hs HK.out hkb' h50, ← HD1.out, HFD.out, hfu]
                    case measure => simp [intOf]; omega
              · go_wp2_with fail
                go_roundw
                case rel =>
                  refine ⟨k, s + 1, m3, dj, rfl, by go_num, by omega, by omega, hkb, hsj, HW3.out, ?_⟩
                  have hfu : fixUp lt8 b k dj = dj := by unfold fixUp; rw [if_neg hbk]
                  rw [← HO.out, pi_go lt8 a b s i k dk hs HK.out hkb' h50, ← HD1.out, HFD.out, hfu]
                case measure => simp [intOf]; omega
    · have hv : Sort.partialInsertionSort lt8 d a b = (dk, false) := by
        unfold Sort.partialInsertionSort
        obtain rfl : s = 5 := by omega
        rw [← HO.out, pi_end]
      have HV := Lib.hid hv
      clear hv
      go_wp2_with fail
      go_ret
      exact ⟨by rw [HV.out]; rfl, n, by rw [HV.out]; exact HWR.out⟩
end Go.Proofs.Ytpnpalbdlhlnkaa
