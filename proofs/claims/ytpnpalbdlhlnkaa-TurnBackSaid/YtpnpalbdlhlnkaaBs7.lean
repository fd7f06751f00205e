/- The walk of partitionEqualOrdered at bytes. -/
import Derived.Test.YtpnpalbdlhlnkaaBs0
import Derived.Sort.WalkC
import Derived.Sort.WalkB2
import Derived.Deep.DeepCutAuto
import Derived.Deep.CutBlock
namespace Go.Proofs.Ytpnpalbdlhlnkaa
open Go.RowKit Go.Sort
set_option linter.unusedVariables false

set_option maxHeartbeats 3200000 in
set_option maxRecDepth 1000000 in
theorem bPartEq (blk off cap a b pivot : Nat) (d : Array UInt8) (w : World) (hH : Holds c8 w blk off d) (hap : a ≤ pivot) (hpb : pivot < b) (hb : b ≤ d.size) (hsz : d.size < 1000000000000) :
    Calls Try.prog 26 #[.slice (some ⟨blk, off, none⟩) d.size cap, .int .i64 a, .int .i64 b, .int .i64 pivot] w fun e w' => e = .returned (.int .i64 (Sort.partitionEqual lt8 d a b pivot).1) ∧ To8 w blk off (Sort.partitionEqual lt8 d a b pivot).2 w' := by
  have hla : a < d.size := by omega
  have hlp : pivot < d.size := by omega
  have hw0 : w = putRow c8 (Sort.ahead w 0) blk off d := (putRow_self _ _ _ _ _ hH).symm
  obtain ⟨G, hG, hcw, hfw⟩ := fam8 hH rfl hw0
  obtain ⟨v', hy'⟩ := cell?_setCell_some (w := w) (p := ⟨blk, off + a, none⟩) (x := .int .u8 ((G pivot).toNat : Int)) (q := ⟨blk, off + pivot, none⟩) (hcw pivot hlp)
  have HG0 := Lib.hid hG
  have HH := Lib.hid hH
  have HW0 := Lib.hid hw0
  clear hG hH hw0
  go_enter Try.func26, Try.ntmps26
  go_wp2
  go_region
  go_wp2
  go_loopw [9, 10] (fun vi vj wr => ∃ (i j n : Nat) (dk : Array UInt8), vi = .int .i64 i ∧ vj = .int .i64 j ∧ a < i ∧ i ≤ j + 1 ∧ j < b ∧ dk.size = d.size ∧ wr = putRow c8 (Sort.ahead w n) blk off dk ∧
      Sort.partEqLoop lt8 a i j dk = Sort.partEqLoop lt8 a (a + 1) (b - 1) (Sort.swp d a pivot)) (fun vi vj _ => (intOf vj).toNat + 1 - (intOf vi).toNat)
  case atStart =>
    refine ⟨a + 1, b - 1, 1, Sort.swp d a pivot, by go_num, by go_num, by omega, by omega, by omega, size_swp _ _ _, ?_, rfl⟩
    have e := swap_worldA c8 w 0 1 blk off d a pivot hla hlp
    rw [← HW0.out] at e
    rw [HG0.out a, HG0.out pivot]
    exact e
  case round =>
    obtain ⟨i, j, n, dk, rfl, rfl, hai, hij, hjb, hs, hwr, heq⟩ := hrel
    clear hcw hfw HG0 hy' v' HW0
    have HW := Lib.hid hwr
    have HE := Lib.hid heq
    clear heq
    have fam := Lib.hid (fun (wx : World) (n' : Nat) (h : wx = putRow c8 (Sort.ahead w n') blk off dk) => fam8 HH.out hs h)
    clear hwr
    go_upto_block 2 with fail
    go_cut [9] from 29 to 45 (fun vi wx => ∃ (i' n' : Nat), vi = .int .i64 i' ∧ i ≤ i' ∧ i' ≤ j + 1 ∧ Hid (i' = Sort.scanUp (fun x => !lt8 dk[a]! x) dk j i) ∧ wx = putRow c8 (Sort.ahead w n') blk off dk)
    case first =>
      go_wp2_with fail
      go_loopw [9] (fun vi w1 => ∃ (i' n1 : Nat), vi = .int .i64 i' ∧ i ≤ i' ∧ i' ≤ j + 1 ∧ w1 = putRow c8 (Sort.ahead w n1) blk off dk ∧ Hid (Sort.scanUp (fun x => !lt8 dk[a]! x) dk j i' = Sort.scanUp (fun x => !lt8 dk[a]! x) dk j i)) (fun vi _ => j + 1 - (intOf vi).toNat)
      case atStart => exact ⟨i, n, rfl, Nat.le_refl _, hij, HW.out, rfl⟩
      case round =>
        obtain ⟨i', n1, rfl, hii, hij', hw1, hsc⟩ := hrel
        obtain ⟨G, hG, hcw, hfw⟩ := fam.out _ _ hw1
        have HG := Lib.hid hG
        have HW1 := Lib.hid hw1
        clear hG hw1
        by_cases hle : i' ≤ j
        · go_wp2_with fail
          go_big_quiet (first | (go_at_call 25; refine Calls.quiet_of_same (less8 _ _ _)))
          go_wp2
          · have ht : (!lt8 (G a) (G i')) = true := by assumption
            go_roundw
            case rel => exact ⟨i' + 1, n1 + nq, by go_num, by omega, by omega, drewN_world c8 HW1.out nq, (scanUp_go (fun x => !lt8 dk[a]! x) dk j i' hle (by rw [← HG.out a, ← HG.out i']; exact ht)).symm.trans hsc.out⟩
            case measure => simp [intOf]; omega
          · have ht : (!lt8 (G a) (G i')) = false := by assumption
            go_meet
            exact ⟨i', n1 + nq, rfl, hii, hij', (scanUp_end (fun x => !lt8 dk[a]! x) dk j i' (Or.inr (by rw [← HG.out a, ← HG.out i']; exact ht))).symm.trans hsc.out, drewN_world c8 HW1.out nq⟩
        · go_wp2_with fail
          go_big_quiet (first | (go_at_call 25; refine Calls.quiet_of_same (less8 _ _ _)))
          go_wp2
          go_meet
          exact ⟨i', n1 + nq, rfl, hii, hij', (scanUp_end (fun x => !lt8 dk[a]! x) dk j i' (Or.inl hle)).symm.trans hsc.out, drewN_world c8 HW1.out nq⟩
    case rest =>
      obtain ⟨i', n1, rfl, hii, hij', hi2, hw1⟩ := hcut
      have HI2 := Lib.hid hi2
      clear hi2
      go_upto_block 4 with fail
      go_cut [10] from 46 to 61 (fun vj wx => ∃ (j' n' : Nat), vj = .int .i64 j' ∧ j' ≤ j ∧ i' ≤ j' + 1 ∧ Hid (j' = Sort.scanDown (fun x => lt8 dk[a]! x) dk i' j) ∧ wx = putRow c8 (Sort.ahead w n') blk off dk)
      case first =>
        go_wp2_with fail
        go_loopw [10] (fun vj w2 => ∃ (j' n2 : Nat), vj = .int .i64 j' ∧ j' ≤ j ∧ i' ≤ j' + 1 ∧ w2 = putRow c8 (Sort.ahead w n2) blk off dk ∧ Hid (Sort.scanDown (fun x => lt8 dk[a]! x) dk i' j' = Sort.scanDown (fun x => lt8 dk[a]! x) dk i' j)) (fun vj _ => (intOf vj).toNat)
        case atStart => exact ⟨j, n1, rfl, Nat.le_refl _, hij', hw1, rfl⟩
        case round =>
          obtain ⟨j', n2, rfl, hjj, hij2, hw2, hsd⟩ := hrel
          obtain ⟨G, hG, hcw, hfw⟩ := fam.out _ _ hw2
          have HG := Lib.hid hG
          have HW1 := Lib.hid hw2
          clear hG hw2 hw1
          by_cases hle : i' ≤ j'
          · go_wp2_with fail
            go_big_quiet (first | (go_at_call 25; refine Calls.quiet_of_same (less8 _ _ _)))
            go_wp2
            · have ht : lt8 (G a) (G j') = true := by assumption
              go_roundw
              case rel => exact ⟨j' - 1, n2 + nq, by go_num, by omega, by omega, drewN_world c8 HW1.out nq, (scanDown_go (fun x => lt8 dk[a]! x) dk i' j' hle (by omega) (by rw [← HG.out a, ← HG.out j']; exact ht)).symm.trans hsd.out⟩
              case measure => simp [intOf]; omega
            · have ht : lt8 (G a) (G j') = false := by assumption
              go_meet
              exact ⟨j', n2 + nq, rfl, hjj, hij2, (scanDown_end (fun x => lt8 dk[a]! x) dk i' j' (Or.inr (by rw [← HG.out a, ← HG.out j']; exact ht))).symm.trans hsd.out, drewN_world c8 HW1.out nq⟩
          · go_wp2_with fail
            go_big_quiet (first | (go_at_call 25; refine Calls.quiet_of_same (less8 _ _ _)))
            go_wp2
            go_meet
            exact ⟨j', n2 + nq, rfl, hjj, hij2, (scanDown_end (fun x => lt8 dk[a]! x) dk i' j' (Or.inl hle)).symm.trans hsd.out, drewN_world c8 HW1.out nq⟩
      case rest =>
        obtain ⟨j', n2, rfl, hjj, hij2, hj2, hw2⟩ := hcut
        have HJ2 := Lib.hid hj2
        obtain ⟨G, hG, hcw, hfw⟩ := fam.out _ _ hw2
        have HG := Lib.hid hG
        have HW2 := Lib.hid hw2
        clear hG hj2 hw2 hw1
        by_cases hgt : j' < i'
        · go_wp2
          go_ret
          have e := partEq_break lt8 a i j dk HI2.out.out HJ2.out.out hgt
          refine ⟨?_, n2, ?_⟩
          · unfold Sort.partitionEqual; rw [← HE.out, e]; rfl
          · unfold Sort.partitionEqual; rw [← HE.out, e]; exact HW2.out
        · have hlt := scans_lt lt8 a i j dk (by omega) HI2.out.out HJ2.out.out (by omega)
          go_wp2
          go_region
          all_goals go_wp2
          all_goals go_roundw
          case rel =>
            refine ⟨i' + 1, j' - 1, n2 + 1, Sort.swp dk i' j', by go_num, by go_num, by omega, by omega, by omega, by rw [size_swp]; exact hs, ?_, ?_⟩
            · rw [HW2.out, HG.out i', HG.out j']
              exact swap_worldA c8 w n2 1 blk off dk i' j' (by omega) (by omega)
            · rw [← HE.out]; exact (partEq_go lt8 a i j dk HI2.out.out HJ2.out.out (by omega)).symm
          case measure => simp [intOf]; omega
end Go.Proofs.Ytpnpalbdlhlnkaa
