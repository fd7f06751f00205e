/- The walk of partitionOrdered at bytes. -/
import Derived.Test.YtpnpalbdlhlnkaaBs0
import Derived.Sort.WalkC4
import Derived.Sort.WalkB2
import Derived.Deep.DeepCutAuto
import Derived.Deep.CutBlock
namespace Go.Proofs.Ytpnpalbdlhlnkaa
open Go.RowKit Go.Sort
set_option linter.unusedVariables false

set_option maxHeartbeats 6400000 in
set_option maxRecDepth 1000000 in
theorem bPart (blk off cap a b pivot : Nat) (d : Array UInt8) (w : World) (hH : Holds c8 w blk off d) (hap : a ≤ pivot) (hpb : pivot < b) (hb : b ≤ d.size) (hsz : d.size < 1000000000000) :
    Calls Try.prog 27 #[.slice (some ⟨blk, off, none⟩) d.size cap, .int .i64 a, .int .i64 b, .int .i64 pivot] w fun e w' => e = .returned (.tuple #[.int .i64 (Sort.partition lt8 d a b pivot).1, .bool (Sort.partition lt8 d a b pivot).2.1]) ∧ To8 w blk off (Sort.partition lt8 d a b pivot).2.2 w' := by
  have hla : a < d.size := by omega
  have hlp : pivot < d.size := by omega
  have hw0 : w = putRow c8 (Sort.ahead w 0) blk off d := (putRow_self _ _ _ _ _ hH).symm
  obtain ⟨G0, hG, hcw, hfw⟩ := fam8 hH rfl hw0
  obtain ⟨v', hy'⟩ := cell?_setCell_some (w := w) (p := ⟨blk, off + a, none⟩) (x := .int .u8 ((G0 pivot).toNat : Int)) (q := ⟨blk, off + pivot, none⟩) (hcw pivot hlp)
  have HG0 := Lib.hid hG
  have HH := Lib.hid hH
  have HW0 := Lib.hid hw0
  clear hG hH hw0
  go_enter Try.func27, Try.ntmps27
  go_upto_block 0 with (go_region)
  have hwr := swap_worldA c8 w 0 1 blk off d a pivot hla hlp
  rw [← HW0.out, ← HG0.out a, ← HG0.out pivot] at hwr
  obtain ⟨Wd, hWd⟩ : ∃ Wd, Wd = ((w.setCell ⟨blk, off + a, none⟩ (.int .u8 ((G0 pivot).toNat : Int))).setCell ⟨blk, off + pivot, none⟩ (.int .u8 ((G0 a).toNat : Int))).drew := ⟨_, rfl⟩
  obtain ⟨dk, hdk⟩ : ∃ dk, dk = Sort.swp d a pivot := ⟨_, rfl⟩
  obtain ⟨n, hwn⟩ : ∃ n, Wd = putRow c8 (Sort.ahead w n) blk off dk := ⟨0 + 1, by rw [hWd, hdk]; exact hwr⟩
  have hs : dk.size = d.size := by rw [hdk]; exact size_swp _ _ _
  rw [← hWd]
  obtain ⟨i, hi⟩ : ∃ i, i = a + 1 := ⟨_, rfl⟩
  obtain ⟨j, hj⟩ : ∃ j, j = b - 1 := ⟨_, rfl⟩
  have hai : a < i := by omega
  have hij : i ≤ j + 1 := by omega
  have hjb : j < b := by omega
  rw [show ((a:Int)+1) = (i:Int) by omega, show ((b:Int)-1) = (j:Int) by omega]
  have HDK := Lib.hid hdk
  have HI := Lib.hid hi
  have HJ := Lib.hid hj
  have HW := Lib.hid hwn
  have fam := Lib.hid (fun (wx : World) (n' : Nat) (h : wx = putRow c8 (Sort.ahead w n') blk off dk) => fam8 HH.out hs h)
  clear hdk hi hj hWd hwr hwn hcw hfw hy' v' HG0 HW0
  go_upto_block 0 with fail
  go_cut [10] from 30 to 45 (fun vi wx => ∃ (i' n' : Nat), vi = .int .i64 i' ∧ i ≤ i' ∧ i' ≤ j + 1 ∧ Hid (i' = Sort.scanUp (fun x => lt8 x dk[a]!) dk j i) ∧ wx = putRow c8 (Sort.ahead w n') blk off dk)
  case first =>
    go_wp2_with fail
    go_loopw [10] (fun vi w1 => ∃ (i' n1 : Nat), vi = .int .i64 i' ∧ i ≤ i' ∧ i' ≤ j + 1 ∧ w1 = putRow c8 (Sort.ahead w n1) blk off dk ∧ Hid (Sort.scanUp (fun x => lt8 x dk[a]!) dk j i' = Sort.scanUp (fun x => lt8 x dk[a]!) dk j i)) (fun vi _ => j + 1 - (intOf vi).toNat)
    case atStart => exact ⟨i, n, rfl, Nat.le_refl _, hij, HW.out, rfl⟩
    case round =>
      obtain ⟨i', n1, rfl, hii, hij', hw1, hsc⟩ := hrel
      obtain ⟨G, hG, hcw, hfw⟩ := fam.out _ _ hw1
      have HG := Lib.hid hG
      have HW1 := Lib.hid hw1
      clear hG hw1
      by_cases hle : i' ≤ j
      · go_wp2_with fail
        go_big_quiet (first | (go_at_call 25; refine Calls.quiet_of_same (less8 _ _ _)))
        go_wp2
        · have ht : lt8 (G i') (G a) = true := by assumption
          go_roundw
          case rel => exact ⟨i' + 1, n1 + nq, by go_num, by omega, by omega, drewN_world c8 HW1.out nq, (scanUp_go (fun x => lt8 x dk[a]!) dk j i' hle (by rw [← HG.out a, ← HG.out i']; exact ht)).symm.trans hsc.out⟩
          case measure => simp [intOf]; omega
        · have ht : lt8 (G i') (G a) = false := by assumption
          go_meet
          exact ⟨i', n1 + nq, rfl, hii, hij', (scanUp_end (fun x => lt8 x dk[a]!) dk j i' (Or.inr (by rw [← HG.out a, ← HG.out i']; exact ht))).symm.trans hsc.out, drewN_world c8 HW1.out nq⟩
      · go_wp2_with fail
        go_big_quiet (first | (go_at_call 25; refine Calls.quiet_of_same (less8 _ _ _)))
        go_wp2
        go_meet
        exact ⟨i', n1 + nq, rfl, hii, hij', (scanUp_end (fun x => lt8 x dk[a]!) dk j i' (Or.inl hle)).symm.trans hsc.out, drewN_world c8 HW1.out nq⟩
  case rest =>
    obtain ⟨i', n1, rfl, hii, hij', hi2, hw1⟩ := hcut
    have HI2 := Lib.hid hi2
    clear hi2
    go_upto_block 2 with fail
    go_cut [11] from 46 to 62 (fun vj wx => ∃ (j' n' : Nat), vj = .int .i64 j' ∧ j' ≤ j ∧ i' ≤ j' + 1 ∧ Hid (j' = Sort.scanDown (fun x => !lt8 x dk[a]!) dk i' j) ∧ wx = putRow c8 (Sort.ahead w n') blk off dk)
    case first =>
      go_wp2_with fail
      go_loopw [11] (fun vj w2 => ∃ (j' n2 : Nat), vj = .int .i64 j' ∧ j' ≤ j ∧ i' ≤ j' + 1 ∧ w2 = putRow c8 (Sort.ahead w n2) blk off dk ∧ Hid (Sort.scanDown (fun x => !lt8 x dk[a]!) dk i' j' = Sort.scanDown (fun x => !lt8 x dk[a]!) dk i' j)) (fun vj _ => (intOf vj).toNat)
      case atStart => exact ⟨j, n1, rfl, Nat.le_refl _, hij', hw1, rfl⟩
      case round =>
        obtain ⟨j', n2, rfl, hjj, hij2, hw2, hsd⟩ := hrel
        obtain ⟨G, hG, hcw, hfw⟩ := fam.out _ _ hw2
        have HG := Lib.hid hG
        have HW1 := Lib.hid hw2
        clear hG hw2 hw1
        by_cases hle : i' ≤ j'
        · go_wp2_with fail
          go_big_quiet (first | (go_at_call 25; refine Calls.quiet_of_same (less8 _ _ _)))
          go_wp2
          · have ht : (!lt8 (G j') (G a)) = true := by assumption
            go_roundw
            case rel => exact ⟨j' - 1, n2 + nq, by go_num, by omega, by omega, drewN_world c8 HW1.out nq, (scanDown_go (fun x => !lt8 x dk[a]!) dk i' j' hle (by omega) (by rw [← HG.out a, ← HG.out j']; exact ht)).symm.trans hsd.out⟩
            case measure => simp [intOf]; omega
          · have ht : (!lt8 (G j') (G a)) = false := by assumption
            go_meet
            exact ⟨j', n2 + nq, rfl, hjj, hij2, (scanDown_end (fun x => !lt8 x dk[a]!) dk i' j' (Or.inr (by rw [← HG.out a, ← HG.out j']; exact ht))).symm.trans hsd.out, drewN_world c8 HW1.out nq⟩
        · go_wp2_with fail
          go_big_quiet (first | (go_at_call 25; refine Calls.quiet_of_same (less8 _ _ _)))
          go_wp2
          go_meet
          exact ⟨j', n2 + nq, rfl, hjj, hij2, (scanDown_end (fun x => !lt8 x dk[a]!) dk i' j' (Or.inl hle)).symm.trans hsd.out, drewN_world c8 HW1.out nq⟩
    case rest =>
      obtain ⟨j', n2, rfl, hjj, hij2, hj2, hw2⟩ := hcut
      have HJ2 := Lib.hid hj2
      obtain ⟨G, hG, hcw, hfw⟩ := fam.out _ _ hw2
      have HG := Lib.hid hG
      have HW2 := Lib.hid hw2
      clear hG hj2 hw2 hw1
      by_cases hgt : j' < i'
      · have e : Sort.partition lt8 d a b pivot = (j', true, Sort.swp dk j' a) := part_first_break lt8 d a b pivot HI.out HJ.out HDK.out HI2.out.out HJ2.out.out hgt
        obtain ⟨v3, hy3⟩ := cell?_setCell_some (w := wc) (p := ⟨blk, off + j', none⟩) (x := .int .u8 ((G a).toNat : Int)) (q := ⟨blk, off + a, none⟩) (hcw a (by omega))
        have hlj : j' < d.size := by omega
        have E := Lib.hid e
        clear e
        go_wp2
        go_region
        all_goals go_wp2
        all_goals go_ret2
        refine ⟨?_, n2 + 1, ?_⟩
        · rw [E.out]; rfl
        · rw [E.out, HW2.out, HG.out a, HG.out j']
          exact swap_worldA c8 w n2 1 blk off dk j' a (by omega) (by omega)
      · have hlt := part_scans_lt lt8 a i j dk (by omega) HI2.out.out HJ2.out.out (by omega)
        obtain ⟨R, hR⟩ : ∃ R, R = Sort.partLoop lt8 a (i' + 1) (j' - 1) (Sort.swp dk i' j') := ⟨_, rfl⟩
        have e : Sort.partition lt8 d a b pivot = (R.1, false, Sort.swp R.2 R.1 a) := by rw [hR]; exact part_first_go lt8 d a b pivot HI.out HJ.out HDK.out HI2.out.out HJ2.out.out (by omega)
        have PF := Lib.hid e
        have HR := Lib.hid hR
        clear e hR
        go_wp2
        go_region
        go_wp2
        go_loopw [10, 11] (fun vi vj wr => ∃ (i2 j2 n : Nat) (dk2 : Array UInt8), vi = .int .i64 i2 ∧ vj = .int .i64 j2 ∧ a < i2 ∧ i2 ≤ j2 + 1 ∧ j2 < b ∧ dk2.size = d.size ∧ wr = putRow c8 (Sort.ahead w n) blk off dk2 ∧ Sort.partLoop lt8 a i2 j2 dk2 = R) (fun vi vj _ => (intOf vj).toNat + 1 - (intOf vi).toNat)
        case atStart =>
          refine ⟨i' + 1, j' - 1, n2 + 1, Sort.swp dk i' j', by go_num, by go_num, by omega, by omega, by omega, by rw [size_swp]; exact hs, ?_, HR.out.symm⟩
          rw [HW2.out, HG.out i', HG.out j']
          exact swap_worldA c8 w n2 1 blk off dk i' j' (by omega) (by omega)
        case round =>
          clear hcw hfw HG HW2 HJ2 HI2 HW fam HR HI HJ HDK
          obtain ⟨i, j, n, dk, rfl, rfl, hai, hij, hjb, hs, hwr, heq⟩ := hrel
          have HW := Lib.hid hwr
          have HE := Lib.hid heq
          have fam := Lib.hid (fun (wx : World) (n' : Nat) (h : wx = putRow c8 (Sort.ahead w n') blk off dk) => fam8 HH.out hs h)
          clear heq hwr
          go_upto_block 6 with fail
          go_cut [10] from 99 to 114 (fun vi wx => ∃ (i' n' : Nat), vi = .int .i64 i' ∧ i ≤ i' ∧ i' ≤ j + 1 ∧ Hid (i' = Sort.scanUp (fun x => lt8 x dk[a]!) dk j i) ∧ wx = putRow c8 (Sort.ahead w n') blk off dk)
          case first =>
            go_wp2_with fail
            go_loopw [10] (fun vi w1 => ∃ (i' n1 : Nat), vi = .int .i64 i' ∧ i ≤ i' ∧ i' ≤ j + 1 ∧ w1 = putRow c8 (Sort.ahead w n1) blk off dk ∧ Hid (Sort.scanUp (fun x => lt8 x dk[a]!) dk j i' = Sort.scanUp (fun x => lt8 x dk[a]!) dk j i)) (fun vi _ => j + 1 - (intOf vi).toNat)
            case atStart => exact ⟨i, n, rfl, Nat.le_refl _, hij, HW.out, rfl⟩
            case round =>
              obtain ⟨i', n1, rfl, hii, hij', hw1, hsc⟩ := hrel
              obtain ⟨G, hG, hcw, hfw⟩ := fam.out _ _ hw1
              have HG := Lib.hid hG
              have HW1 := Lib.hid hw1
              clear hG hw1
              by_cases hle : i' ≤ j
              · go_wp2_with fail
                go_big_quiet (first | (go_at_call 25; refine Calls.quiet_of_same (less8 _ _ _)))
                go_wp2
                · have ht : lt8 (G i') (G a) = true := by assumption
                  go_roundw
                  case rel => exact ⟨i' + 1, n1 + nq, by go_num, by omega, by omega, drewN_world c8 HW1.out nq, (scanUp_go (fun x => lt8 x dk[a]!) dk j i' hle (by rw [← HG.out a, ← HG.out i']; exact ht)).symm.trans hsc.out⟩
                  case measure => simp [intOf]; omega
                · have ht : lt8 (G i') (G a) = false := by assumption
                  go_meet
                  exact ⟨i', n1 + nq, rfl, hii, hij', (scanUp_end (fun x => lt8 x dk[a]!) dk j i' (Or.inr (by rw [← HG.out a, ← HG.out i']; exact ht))).symm.trans hsc.out, drewN_world c8 HW1.out nq⟩
              · go_wp2_with fail
                go_big_quiet (first | (go_at_call 25; refine Calls.quiet_of_same (less8 _ _ _)))
                go_wp2
                go_meet
                exact ⟨i', n1 + nq, rfl, hii, hij', (scanUp_end (fun x => lt8 x dk[a]!) dk j i' (Or.inl hle)).symm.trans hsc.out, drewN_world c8 HW1.out nq⟩
          case rest =>
            obtain ⟨i', n1, rfl, hii, hij', hi2, hw1⟩ := hcut
            have HI2 := Lib.hid hi2
            clear hi2
            go_upto_block 8 with fail
            go_cut [11] from 115 to 131 (fun vj wx => ∃ (j' n' : Nat), vj = .int .i64 j' ∧ j' ≤ j ∧ i' ≤ j' + 1 ∧ Hid (j' = Sort.scanDown (fun x => !lt8 x dk[a]!) dk i' j) ∧ wx = putRow c8 (Sort.ahead w n') blk off dk)
            case first =>
              go_wp2_with fail
              go_loopw [11] (fun vj w2 => ∃ (j' n2 : Nat), vj = .int .i64 j' ∧ j' ≤ j ∧ i' ≤ j' + 1 ∧ w2 = putRow c8 (Sort.ahead w n2) blk off dk ∧ Hid (Sort.scanDown (fun x => !lt8 x dk[a]!) dk i' j' = Sort.scanDown (fun x => !lt8 x dk[a]!) dk i' j)) (fun vj _ => (intOf vj).toNat)
              case atStart => exact ⟨j, n1, rfl, Nat.le_refl _, hij', hw1, rfl⟩
              case round =>
                obtain ⟨j', n2, rfl, hjj, hij2, hw2, hsd⟩ := hrel
                obtain ⟨G, hG, hcw, hfw⟩ := fam.out _ _ hw2
                have HG := Lib.hid hG
                have HW1 := Lib.hid hw2
                clear hG hw2 hw1
                by_cases hle : i' ≤ j'
                · go_wp2_with fail
                  go_big_quiet (first | (go_at_call 25; refine Calls.quiet_of_same (less8 _ _ _)))
                  go_wp2
                  · have ht : (!lt8 (G j') (G a)) = true := by assumption
                    go_roundw
                    case rel => exact ⟨j' - 1, n2 + nq, by go_num, by omega, by omega, drewN_world c8 HW1.out nq, (scanDown_go (fun x => !lt8 x dk[a]!) dk i' j' hle (by omega) (by rw [← HG.out a, ← HG.out j']; exact ht)).symm.trans hsd.out⟩
                    case measure => simp [intOf]; omega
                  · have ht : (!lt8 (G j') (G a)) = false := by assumption
                    go_meet
                    exact ⟨j', n2 + nq, rfl, hjj, hij2, (scanDown_end (fun x => !lt8 x dk[a]!) dk i' j' (Or.inr (by rw [← HG.out a, ← HG.out j']; exact ht))).symm.trans hsd.out, drewN_world c8 HW1.out nq⟩
                · go_wp2_with fail
                  go_big_quiet (first | (go_at_call 25; refine Calls.quiet_of_same (less8 _ _ _)))
                  go_wp2
                  go_meet
                  exact ⟨j', n2 + nq, rfl, hjj, hij2, (scanDown_end (fun x => !lt8 x dk[a]!) dk i' j' (Or.inl hle)).symm.trans hsd.out, drewN_world c8 HW1.out nq⟩
            case rest =>
              obtain ⟨j', n2, rfl, hjj, hij2, hj2, hw2⟩ := hcut
              have HJ2 := Lib.hid hj2
              obtain ⟨G, hG, hcw, hfw⟩ := fam.out _ _ hw2
              have HG := Lib.hid hG
              have HW2 := Lib.hid hw2
              clear hG hj2 hw2 hw1
              by_cases hgt : j' < i'
              · have e := part_break lt8 a i j dk HI2.out.out HJ2.out.out hgt
                rw [HE.out] at e
                obtain ⟨v3, hy3⟩ := cell?_setCell_some (w := wc) (p := ⟨blk, off + j', none⟩) (x := .int .u8 ((G a).toNat : Int)) (q := ⟨blk, off + a, none⟩) (hcw a (by omega))
                have hlj : j' < d.size := by omega
                have E := Lib.hid e
                clear e
                go_wp2
                go_region
                all_goals go_wp2
                all_goals go_ret2
                refine ⟨?_, n2 + 1, ?_⟩
                · rw [PF.out, E.out]; rfl
                · rw [PF.out, E.out, HW2.out, HG.out a, HG.out j']
                  exact swap_worldA c8 w n2 1 blk off dk j' a (by omega) (by omega)
              · have hlt := part_scans_lt lt8 a i j dk (by omega) HI2.out.out HJ2.out.out (by omega)
                go_wp2
                go_region
                all_goals go_wp2
                all_goals go_roundw
                case rel =>
                  refine ⟨i' + 1, j' - 1, n2 + 1, Sort.swp dk i' j', by go_num, by go_num, by omega, by omega, by omega, by rw [size_swp]; exact hs, ?_, ?_⟩
                  · rw [HW2.out, HG.out i', HG.out j']
                    exact swap_worldA c8 w n2 1 blk off dk i' j' (by omega) (by omega)
                  · rw [← HE.out]; exact (part_go lt8 a i j dk HI2.out.out HJ2.out.out (by omega)).symm
                case measure => simp [intOf]; omega
end Go.Proofs.Ytpnpalbdlhlnkaa
