import Derived.Test.YtmephgemokngnaaCommonWalk
import Derived.Test.YtmephgemokngnaaEqual
import Derived.Test.YtmephgemokngnaaGood
import Derived.Test.YtmephgemokngnaaSubsP
import Derived.IntWalk
import Derived.Test.YtmephgemokngnaaMirror
import Derived.Test.YtmephgemokngnaaCheck
import Derived.Deep.QuietTactic
import Derived.BigQuiet
import Derived.Test.YtmephgemokngnaaMirrorQ
import Derived.Test.YtmephgemokngnaaStruct
import Derived.Shelf.Sort.Plain
import Derived.Test.YtmephgemokngnaaProg
import Derived.Shelf.Slices.CompactS
import Derived.Test.YtmephgemokngnaaSortK
import Derived.Shelf.Slices.In.SortNone
import Derived.Test.YtmephgemokngnaaWord
import Derived.Test.YtmephgemokngnaaWordWalk
import Derived.Test.YtmephgemokngnaaTopUnlikeP
import Derived.Test.YtmephgemokngnaaTopPowers
import Derived.OpenShut
import Derived.Test.YtmephgemokngnaaRows
import Derived.WalkKit
import Derived.ProofKit
import Derived.ShutString
import Derived.SizedLaws
import Derived.ChangeOld
import Derived.Below
/- Several texts in one: XEnds XUnlikeWalk XArms XMirrorLong XLaidStrSort XLaidCompactStr XStrSort XMirrorUnl XSeek XSeekWalk XTopUnlike XTopUnlikeRow. -/
/- suffix.Common where it refuses; the walk of the laws' helper ends. -/
namespace Go.Proofs.Ytmephgemokngnaa
open Go.RowKit
set_option linter.unusedVariables false

set_option maxHeartbeats 1000000 in
theorem common_no (s : ByteArray) (hs : 200 < s.size) (w : World) : Calls Try.prog 42 #[.string s] w fun e w' => e = .returned (.tuple #[.slice none 0 0, .int .i64 2]) ∧ RowKit.Below w.heap.size w w' := by
  have H1 := Lib.hid (order_no s hs)
  go_enter Try.func42, Try.ntmps42
  go_wp2_with fail
  refine (H1.out _).mono ?_
  rintro e w1 ⟨rfl, hb1⟩
  go_wp2
  go_ret2
  exact ⟨rfl, hb1⟩
theorem fresh_ints3 (l : List Int) (w : World) : Reads (w.alloc (Obj.cells (l.map (Value.int .i64)).toArray 3)) (w.heap.size + 1) (some ⟨w.heap.size, 0, none⟩) l.length 1 (l.flatMap cInt) := by
  have h := Reads.of_fresh w (l.map (Value.int .i64)).toArray 3 l.length 1 (by simp)
  have e : ∀ l : List Int, (l.map (Value.int .i64)).toArray.toList = l.flatMap cInt := fun l => by
    rw [List.toList_toArray]
    induction l with
    | nil => rfl
    | cons x l ih => rw [List.map_cons, List.flatMap_cons, ← ih]; rfl
  rwa [e] at h
end Go.Proofs.Ytmephgemokngnaa

/- The walk of suffix.Unlike. -/

namespace Go.Proofs.Ytmephgemokngnaa
open Go.RowKit
set_option linter.unusedVariables false

/-- What Unlike tells. -/
noncomputable def unlN (s : ByteArray) : Nat := unl s.data.toList (sOrd s.data.toList)
theorem unlN_many (s : ByteArray) : Many (Sub s.data.toList) (unlN s) := (sOrd_is _).unl_eq.2

set_option maxHeartbeats 2000000 in
theorem suffixUnlike_ok (s : ByteArray) (hs : s.size ≤ 200) (w : World) : Calls Try.prog 20 #[.string s] w fun e w' => e = .returned (.tuple #[.int .i64 (unlN s : Nat), .int .i64 0]) ∧ RowKit.Below w.heap.size w w' := by
  have H2 := Lib.hid (common_ok s hs)
  have hu := (sOrd_is s.data.toList).unl_eq.1
  rw [show s.data.toList.length = s.size from rfl] at hu
  obtain ⟨T, hT⟩ : ∃ T, T = s.size * (s.size + 1) / 2 := ⟨_, rfl⟩
  have hT1 : T ≤ 20100 := by
    have h1 : s.size * (s.size + 1) ≤ 200 * 201 := Nat.mul_le_mul hs (by omega)
    omega
  rw [← hT] at hu
  have Hu := Lib.hid hu
  have HT := Lib.hid hT
  have e0 : (s.size : Int) * ((s.size : Int) + 1) = ((s.size * (s.size + 1) : Nat) : Int) := by simp
  have e1 : s.size * (s.size + 1) ≤ 200 * 201 := Nat.mul_le_mul hs (by omega)
  have e2 : IntKind.i64.wrap ((s.size : Int) * ((s.size : Int) + 1)) = (s.size : Int) * ((s.size : Int) + 1) := by rw [e0]; exact IntWalk.i64_in _ (by omega)
  have e3 : ((s.size : Int) * ((s.size : Int) + 1)).tdiv 2 = (T : Int) := by
    rw [e0, hT]
    generalize s.size * (s.size + 1) = y
    rw [Int.tdiv_eq_ediv_of_nonneg (by omega)]; omega
  have e3' : ((s.size : Int) * ((s.size : Int) + 1)) / 2 = (T : Int) := by
    rw [e0, hT]
    generalize s.size * (s.size + 1) = y
    omega
  clear hu hT e0 e1
  go_enter Try.func20, Try.ntmps20
  go_wp2_with fail
  refine (H2.out _).mono ?_
  rintro e w4 ⟨g', rfl, hg', hi4, hb4⟩
  go_wp2
  go_loopw [6, 8, 26] (fun nv _ iv wr => ∃ k : Nat, k ≤ s.size ∧ iv = .int .i64 k ∧ nv = .int .i64 ((T : Int) - ((sumR (lcpR s.data.toList (sOrd s.data.toList)) k : Nat) : Int)) ∧ wr = w4) (fun _ _ iv _ => s.size - (intOf iv).toNat)
  case atStart => exact ⟨0, Nat.zero_le _, rfl, by simp [sumR], rfl⟩
  case round =>
    obtain ⟨k, hk, rfl, rfl, rfl⟩ := hrel
    by_cases hlt : k < s.size
    · have c0 := (hi4.2 k (by rw [lcpsI_len]; exact hlt)).1
      rw [lcpsI_getD (show k < s.data.toList.length from hlt)] at c0
      have hle := lcpR_le s.data.toList (sOrd s.data.toList) k
      have hL : lcpR s.data.toList (sOrd s.data.toList) k ≤ s.size := Nat.le_trans hle (Nat.sub_le _ _)
      have hS : sumR (lcpR s.data.toList (sOrd s.data.toList)) k ≤ k * 200 := sumR_bound (fun r => Nat.le_trans (Nat.le_trans (lcpR_le s.data.toList (sOrd s.data.toList) r) (Nat.sub_le _ _)) (show s.size ≤ 200 from hs)) k
      have hn : sumR (lcpR s.data.toList (sOrd s.data.toList)) (k + 1) = sumR (lcpR s.data.toList (sOrd s.data.toList)) k + lcpR s.data.toList (sOrd s.data.toList) k := rfl
      have Hn := Lib.hid hn
      clear hn hle
      generalize sumR (lcpR s.data.toList (sOrd s.data.toList)) k = S at *
      generalize lcpR s.data.toList (sOrd s.data.toList) k = x at *
      clear e2 e3 e3'
      go_wp2
      go_roundw
      case rel => exact ⟨k + 1, by omega, by go_num, by rw [Hn.out]; go_num, trivial⟩
      case measure => simp [intOf]; omega
    · obtain rfl : k = s.size := by omega
      have h1 : ((T : Int) - ((sumR (lcpR s.data.toList (sOrd s.data.toList)) s.size : Nat) : Int)) = ((unlN s : Nat) : Int) := by
        have := Hu.out
        unfold unlN
        omega
      rw [h1]
      clear e2 e3 e3'
      go_wp2
      go_ret2
      exact ⟨rfl, hb4⟩
theorem suffixUnlike_no (s : ByteArray) (hs : 200 < s.size) (w : World) : Calls Try.prog 20 #[.string s] w fun e w' => e = .returned (.tuple #[.int .i64 0, .int .i64 2]) ∧ RowKit.Below w.heap.size w w' := by
  have H2 := Lib.hid (common_no s hs)
  go_enter Try.func20, Try.ntmps20
  go_wp2_with fail
  refine (H2.out _).mono ?_
  rintro e w4 ⟨rfl, hb4⟩
  go_wp2
  go_ret2
  exact ⟨rfl, hb4⟩
end Go.Proofs.Ytmephgemokngnaa

/- The walk of mirror.Arms: Manacher's arms. -/
namespace Go.Proofs.Ytmephgemokngnaa
open Go.RowKit
set_option linter.unusedVariables false

theorem infoIntM : (Try.prog.info? 3).map (fun i => (i.zero, i.size, i.bytes)) = some (some (.int .i64 0), 1, 8) := by kernel_rfl
theorem IntsAt.drewA {w : World} {g : Nat} {l : List Int} (h : IntsAt w g l) (n : Nat) : IntsAt (w.drewN n) g l := h

set_option maxRecDepth 100000 in
set_option maxHeartbeats 4000000 in
theorem arms_ok (s : ByteArray) (hs : s.size ≤ 200) (w : World) :
    Calls Try.prog 22 #[.string s] w fun e w' => ∃ (g : Nat) (l : List Int), e = .returned (.tuple #[.slice (some ⟨g, 0, none⟩) (2 * s.size + 1) (2 * s.size + 1), .int .i64 0]) ∧
      l.length = 2 * s.size + 1 ∧ IntsAt w' g l ∧ (∀ j, j < 2 * s.size + 1 → ∃ n : Nat, l.getD j 0 = n ∧ IsArm s.data.toList j n) ∧ Below w.heap.size w w' := by
  have hmk := fun w : World => make_ints (P := Try.prog) 41 3 Try.underlying41 infoIntM (2 * s.size + 1) (2 * (s.size : Int) + 1) (by omega) (by omega) w
  have hLs : s.data.toList.length = s.size := rfl
  go_enter Try.func22, Try.ntmps22
  go_wp2_with fail
  refine (wordCheck_ok s hs _).mono ?_
  rintro e w1 ⟨rfl, rfl⟩
  go_wp2
  obtain ⟨hb0, hz0, hat0⟩ := ints_made w (2 * s.size + 1) 3
  generalize hW : World.alloc _ _ = W at *
  clear hW hmk
  have hg := Nat.le_refl w.heap.size
  have hg2 : w.heap.size < W.heap.size := by omega
  generalize hgg : w.heap.size = g at hg hg2 hat0 ⊢
  have hlow : w.heap.size ≤ g := by omega
  clear hgg hz0 hg
  go_loopw [6, 7, 8, 9, 22] (fun m x _ _ i wr => ∃ (k mid e : Nat) (l : List Int), k ≤ 2 * s.size + 1 ∧ i = .int .i64 k ∧ m = .int .i64 mid ∧ x = .int .i64 e ∧ l.length = 2 * s.size + 1 ∧ IntsAt wr g l ∧ Below w.heap.size w wr ∧
      (∀ j, j < k → ∃ n : Nat, l.getD j 0 = n ∧ IsArm s.data.toList j n) ∧ mid ≤ e ∧ e ≤ 2 * s.size ∧ Arm s.data.toList mid (e - mid) ∧ (mid < k ∨ (mid = 0 ∧ e = 0)))
    (fun _ _ _ _ i _ => 2 * s.size + 1 - (intOf i).toNat)
  case atStart => exact ⟨0, 0, 0, List.replicate (2 * s.size + 1) 0, Nat.zero_le _, rfl, rfl, rfl, by simp, hat0, hb0, fun j hj => by omega, by omega, by omega, Arm.zero (by omega), .inr ⟨rfl, rfl⟩⟩
  case round =>
    obtain ⟨k, mid, e, l, hk, rfl, rfl, rfl, hl, hat, hbr, hv, hme, he2, hmeA, hmk⟩ := hrel
    have Hl := Lib.hid hl
    have Hv := Lib.hid hv
    have Hme := Lib.hid hmeA
    clear hl hv hmeA
    by_cases hlt : k < 2 * s.size + 1
    · by_cases hke : k < e
      · obtain ⟨a, ha, haa⟩ := Hv.out (2 * mid - k) (by omega)
        have hmk' : mid < k := by omega
        have h2m : k ≤ 2 * mid := by have := Hme.out.1; omega
        have hcell := (hat.2 (2 * mid - k) (by rw [Hl.out]; omega)).1
        rw [ha] at hcell
        have hab := haa.1.1
        have harm0 : Arm s.data.toList k (min a (e - k)) := arm_mirror Hme.out hmk' hke haa.1 (Nat.min_le_left _ _) (Nat.min_le_right _ _)
        have Harm0 := Lib.hid harm0
        have q0 : decide ((k : Int) < (e : Int)) = true := decide_eq_true (by omega)
        have hmin : ∀ (ats : Array TypeId) (t : TypeId) (w : World), (Builtin.min_ ats t #[.int .i64 (a : Int), .int .i64 ((e : Int) - (k : Int))]).run Try.prog w = .ok (.int .i64 ((min a (e - k) : Nat) : Int)) w := fun ats t w => by
          rw [run_min_int2]; congr 2; omega
        clear harm0 ha haa
        generalize min a (e - k) = n0 at *
        go_wp2
        go_loopw [9] (fun v wq => ∃ n : Nat, v = .int .i64 n ∧ Arm s.data.toList k n ∧ Below w.heap.size w wq ∧ IntsAt wq g l) (fun v _ => 2 * s.size - (intOf v).toNat)
        case atStart => exact ⟨n0, by rfl, Harm0.out, hbr, hat⟩
        case round =>
          clear hat hbr
          obtain ⟨n, rfl, harm, hbr, hat⟩ := hrel
          have hn1 := harm.1
          have hn2 : k + n ≤ 2 * s.size := harm.2.1
          by_cases hc1 : n < k
          · have q1 : decide (n < k) = true := decide_eq_true hc1
            have q1' : decide ((0 : Int) < (k : Int) - (n : Int)) = true := decide_eq_true (by omega)
            by_cases hc2 : k + n < 2 * s.size
            · have q2 : decide ((k : Int) + (n : Int) < 2 * (s.size : Int)) = true := decide_eq_true (by omega)
              by_cases hc3 : (k + n) % 2 = 1
              · have q3 : (((k : Int) + (n : Int)) % 2 == 1) = true := by rw [beq_iff_eq]; omega
                have hnext := arm_step harm hc1 hc2 (.inl hc3)
                have Hnext := Lib.hid hnext
                clear hnext hc3
                go_wp2
                go_quiet (fail)
                go_wp2
                go_roundw
                case rel => exact ⟨n + 1, by go_num, Hnext.out, below_drewN hbr _, hat⟩
                case measure => simp only [intOf]; omega
              · have q3 : (((k : Int) + (n : Int)) % 2 == 1) = false := by rw [beq_eq_false_iff_ne]; omega
                have i1 : (k - n) / 2 - 1 < s.size := by omega
                have i2 : (k + n) / 2 < s.size := by omega
                have j1 : (((k : Int) - (n : Int)) / 2 - 1) = (((k - n) / 2 - 1 : Nat) : Int) := by omega
                have j2 : (((k : Int) + (n : Int)) / 2) = (((k + n) / 2 : Nat) : Int) := by omega
                have hb : IntKind.i64.wrap (((k : Int) - (n : Int)) / 2 - 1) = (((k - n) / 2 - 1 : Nat) : Int) := by rw [← j1]; exact IntWalk.i64_in _ (by omega)
                have hstep := fun h => arm_step harm hc1 hc2 (.inr h)
                have hstop := fun (h : ¬ (s.data.toList.getD ((k - n) / 2 - 1) 0 = s.data.toList.getD ((k + n) / 2) 0)) => arm_stop (s := s.data.toList) (k := k) (n := n) (fun hh => h (hh.2.2.resolve_left hc3))
                rw [getD_bytes s _ i1, getD_bytes s _ i2] at hstep hstop
                generalize hp : (k - n) / 2 - 1 = p at *
                generalize hq : (k + n) / 2 = q at *
                have Hstep := Lib.hid hstep
                have Hstop := Lib.hid hstop
                clear hstep hstop hp hq hc3
                by_cases hc4 : s[p] = s[q]
                · have q4 : ((s[p].toNat : Int) == (s[q].toNat : Int)) = true := by rw [hc4]; simp
                  have hnext := Hstep.out hc4
                  have Hnext := Lib.hid hnext
                  clear hnext Hstep Hstop hc4
                  go_wp2
                  go_quiet (fail)
                  go_wp2
                  go_roundw
                  case rel => exact ⟨n + 1, by go_num, Hnext.out, below_drewN hbr _, hat⟩
                  case measure => simp only [intOf]; omega
                · have q4 : ((s[p].toNat : Int) == (s[q].toNat : Int)) = false := by rw [beq_eq_false_iff_ne]; intro h; exact hc4 (UInt8.toNat_inj.1 (by omega))
                  have hno := Hstop.out hc4
                  have Hno := Lib.hid hno
                  clear hno Hstep Hstop hc4
                  go_wp2
                  go_quiet (fail)
                  have hat := hat.drewA nq
                  have hbr := below_drewN hbr nq
                  generalize World.drewN _ nq = wz at *
                  obtain ⟨hck, hfk⟩ := hat.2 k (by rw [Hl.out]; omega)
                  have Hv2 : Hid (∀ j, j < k + 1 → ∃ n' : Nat, (l.set k (n : Int)).getD j 0 = n' ∧ IsArm s.data.toList j n') := fun j hj => by
                    rw [getD_set _ _ _ _ (by rw [Hl.out]; omega)]
                    by_cases ej : j = k
                    · exact ⟨n, by rw [if_pos ej], by rw [ej]; exact ⟨harm, Hno.out⟩⟩
                    · rw [if_neg ej]; exact Hv.out j (by omega)
                  by_cases hgt : e < k + n
                  · have q5 : decide ((e : Int) < (k : Int) + (n : Int)) = true := decide_eq_true (by omega)
                    go_wp2
                    go_roundw
                    case rel => exact ⟨k + 1, k, k + n, l.set k n, by omega, by go_num, rfl, by go_num, by rw [List.length_set]; exact Hl.out, hat.set k (by rw [Hl.out]; omega) _, hbr.setCell hlow _, Hv2.out, by omega, by omega, by rw [Nat.add_sub_cancel_left]; exact harm, .inl (by omega)⟩
                    case measure => simp only [intOf]; omega
                  · have q5 : decide ((e : Int) < (k : Int) + (n : Int)) = false := decide_eq_false (by omega)
                    go_wp2
                    go_roundw
                    case rel => exact ⟨k + 1, mid, e, l.set k n, by omega, by go_num, rfl, rfl, by rw [List.length_set]; exact Hl.out, hat.set k (by rw [Hl.out]; omega) _, hbr.setCell hlow _, Hv2.out, hme, he2, Hme.out, by omega⟩
                    case measure => simp only [intOf]; omega
            · have q2 : decide ((k : Int) + (n : Int) < 2 * (s.size : Int)) = false := decide_eq_false (by omega)
              have Hno := Lib.hid (arm_stop (s := s.data.toList) (k := k) (n := n) (fun hh => hc2 hh.2.1))
              go_wp2
              go_quiet (fail)
              have hat := hat.drewA nq
              have hbr := below_drewN hbr nq
              generalize World.drewN _ nq = wz at *
              obtain ⟨hck, hfk⟩ := hat.2 k (by rw [Hl.out]; omega)
              have Hv2 : Hid (∀ j, j < k + 1 → ∃ n' : Nat, (l.set k (n : Int)).getD j 0 = n' ∧ IsArm s.data.toList j n') := fun j hj => by
                rw [getD_set _ _ _ _ (by rw [Hl.out]; omega)]
                by_cases ej : j = k
                · exact ⟨n, by rw [if_pos ej], by rw [ej]; exact ⟨harm, Hno.out⟩⟩
                · rw [if_neg ej]; exact Hv.out j (by omega)
              by_cases hgt : e < k + n
              · have q5 : decide ((e : Int) < (k : Int) + (n : Int)) = true := decide_eq_true (by omega)
                go_wp2
                go_roundw
                case rel => exact ⟨k + 1, k, k + n, l.set k n, by omega, by go_num, rfl, by go_num, by rw [List.length_set]; exact Hl.out, hat.set k (by rw [Hl.out]; omega) _, hbr.setCell hlow _, Hv2.out, by omega, by omega, by rw [Nat.add_sub_cancel_left]; exact harm, .inl (by omega)⟩
                case measure => simp only [intOf]; omega
              · have q5 : decide ((e : Int) < (k : Int) + (n : Int)) = false := decide_eq_false (by omega)
                go_wp2
                go_roundw
                case rel => exact ⟨k + 1, mid, e, l.set k n, by omega, by go_num, rfl, rfl, by rw [List.length_set]; exact Hl.out, hat.set k (by rw [Hl.out]; omega) _, hbr.setCell hlow _, Hv2.out, hme, he2, Hme.out, by omega⟩
                case measure => simp only [intOf]; omega
          · have q1 : decide (n < k) = false := decide_eq_false hc1
            have q1' : decide ((0 : Int) < (k : Int) - (n : Int)) = false := decide_eq_false (by omega)
            have Hno := Lib.hid (arm_stop (s := s.data.toList) (k := k) (n := n) (fun hh => hc1 hh.1))
            go_wp2
            go_quiet (fail)
            have hat := hat.drewA nq
            have hbr := below_drewN hbr nq
            generalize World.drewN _ nq = wz at *
            obtain ⟨hck, hfk⟩ := hat.2 k (by rw [Hl.out]; omega)
            have Hv2 : Hid (∀ j, j < k + 1 → ∃ n' : Nat, (l.set k (n : Int)).getD j 0 = n' ∧ IsArm s.data.toList j n') := fun j hj => by
              rw [getD_set _ _ _ _ (by rw [Hl.out]; omega)]
              by_cases ej : j = k
              · exact ⟨n, by rw [if_pos ej], by rw [ej]; exact ⟨harm, Hno.out⟩⟩
              · rw [if_neg ej]; exact Hv.out j (by omega)
            by_cases hgt : e < k + n
            · have q5 : decide ((e : Int) < (k : Int) + (n : Int)) = true := decide_eq_true (by omega)
              go_wp2
              go_roundw
              case rel => exact ⟨k + 1, k, k + n, l.set k n, by omega, by go_num, rfl, by go_num, by rw [List.length_set]; exact Hl.out, hat.set k (by rw [Hl.out]; omega) _, hbr.setCell hlow _, Hv2.out, by omega, by omega, by rw [Nat.add_sub_cancel_left]; exact harm, .inl (by omega)⟩
              case measure => simp only [intOf]; omega
            · have q5 : decide ((e : Int) < (k : Int) + (n : Int)) = false := decide_eq_false (by omega)
              go_wp2
              go_roundw
              case rel => exact ⟨k + 1, mid, e, l.set k n, by omega, by go_num, rfl, rfl, by rw [List.length_set]; exact Hl.out, hat.set k (by rw [Hl.out]; omega) _, hbr.setCell hlow _, Hv2.out, hme, he2, Hme.out, by omega⟩
              case measure => simp only [intOf]; omega
      · have q0 : decide ((k : Int) < (e : Int)) = false := decide_eq_false (by omega)
        go_wp2
        go_loopw [9] (fun v wq => ∃ n : Nat, v = .int .i64 n ∧ Arm s.data.toList k n ∧ Below w.heap.size w wq ∧ IntsAt wq g l) (fun v _ => 2 * s.size - (intOf v).toNat)
        case atStart => exact ⟨0, by rfl, Arm.zero (by omega), hbr, hat⟩
        case round =>
          clear hat hbr
          obtain ⟨n, rfl, harm, hbr, hat⟩ := hrel
          have hn1 := harm.1
          have hn2 : k + n ≤ 2 * s.size := harm.2.1
          by_cases hc1 : n < k
          · have q1 : decide (n < k) = true := decide_eq_true hc1
            have q1' : decide ((0 : Int) < (k : Int) - (n : Int)) = true := decide_eq_true (by omega)
            by_cases hc2 : k + n < 2 * s.size
            · have q2 : decide ((k : Int) + (n : Int) < 2 * (s.size : Int)) = true := decide_eq_true (by omega)
              by_cases hc3 : (k + n) % 2 = 1
              · have q3 : (((k : Int) + (n : Int)) % 2 == 1) = true := by rw [beq_iff_eq]; omega
                have hnext := arm_step harm hc1 hc2 (.inl hc3)
                have Hnext := Lib.hid hnext
                clear hnext hc3
                go_wp2
                go_quiet (fail)
                go_wp2
                go_roundw
                case rel => exact ⟨n + 1, by go_num, Hnext.out, below_drewN hbr _, hat⟩
                case measure => simp only [intOf]; omega
              · have q3 : (((k : Int) + (n : Int)) % 2 == 1) = false := by rw [beq_eq_false_iff_ne]; omega
                have i1 : (k - n) / 2 - 1 < s.size := by omega
                have i2 : (k + n) / 2 < s.size := by omega
                have j1 : (((k : Int) - (n : Int)) / 2 - 1) = (((k - n) / 2 - 1 : Nat) : Int) := by omega
                have j2 : (((k : Int) + (n : Int)) / 2) = (((k + n) / 2 : Nat) : Int) := by omega
                have hb : IntKind.i64.wrap (((k : Int) - (n : Int)) / 2 - 1) = (((k - n) / 2 - 1 : Nat) : Int) := by rw [← j1]; exact IntWalk.i64_in _ (by omega)
                have hstep := fun h => arm_step harm hc1 hc2 (.inr h)
                have hstop := fun (h : ¬ (s.data.toList.getD ((k - n) / 2 - 1) 0 = s.data.toList.getD ((k + n) / 2) 0)) => arm_stop (s := s.data.toList) (k := k) (n := n) (fun hh => h (hh.2.2.resolve_left hc3))
                rw [getD_bytes s _ i1, getD_bytes s _ i2] at hstep hstop
                generalize hp : (k - n) / 2 - 1 = p at *
                generalize hq : (k + n) / 2 = q at *
                have Hstep := Lib.hid hstep
                have Hstop := Lib.hid hstop
                clear hstep hstop hp hq hc3
                by_cases hc4 : s[p] = s[q]
                · have q4 : ((s[p].toNat : Int) == (s[q].toNat : Int)) = true := by rw [hc4]; simp
                  have hnext := Hstep.out hc4
                  have Hnext := Lib.hid hnext
                  clear hnext Hstep Hstop hc4
                  go_wp2
                  go_quiet (fail)
                  go_wp2
                  go_roundw
                  case rel => exact ⟨n + 1, by go_num, Hnext.out, below_drewN hbr _, hat⟩
                  case measure => simp only [intOf]; omega
                · have q4 : ((s[p].toNat : Int) == (s[q].toNat : Int)) = false := by rw [beq_eq_false_iff_ne]; intro h; exact hc4 (UInt8.toNat_inj.1 (by omega))
                  have hno := Hstop.out hc4
                  have Hno := Lib.hid hno
                  clear hno Hstep Hstop hc4
                  go_wp2
                  go_quiet (fail)
                  have hat := hat.drewA nq
                  have hbr := below_drewN hbr nq
                  generalize World.drewN _ nq = wz at *
                  obtain ⟨hck, hfk⟩ := hat.2 k (by rw [Hl.out]; omega)
                  have Hv2 : Hid (∀ j, j < k + 1 → ∃ n' : Nat, (l.set k (n : Int)).getD j 0 = n' ∧ IsArm s.data.toList j n') := fun j hj => by
                    rw [getD_set _ _ _ _ (by rw [Hl.out]; omega)]
                    by_cases ej : j = k
                    · exact ⟨n, by rw [if_pos ej], by rw [ej]; exact ⟨harm, Hno.out⟩⟩
                    · rw [if_neg ej]; exact Hv.out j (by omega)
                  by_cases hgt : e < k + n
                  · have q5 : decide ((e : Int) < (k : Int) + (n : Int)) = true := decide_eq_true (by omega)
                    go_wp2
                    go_roundw
                    case rel => exact ⟨k + 1, k, k + n, l.set k n, by omega, by go_num, rfl, by go_num, by rw [List.length_set]; exact Hl.out, hat.set k (by rw [Hl.out]; omega) _, hbr.setCell hlow _, Hv2.out, by omega, by omega, by rw [Nat.add_sub_cancel_left]; exact harm, .inl (by omega)⟩
                    case measure => simp only [intOf]; omega
                  · have q5 : decide ((e : Int) < (k : Int) + (n : Int)) = false := decide_eq_false (by omega)
                    go_wp2
                    go_roundw
                    case rel => exact ⟨k + 1, mid, e, l.set k n, by omega, by go_num, rfl, rfl, by rw [List.length_set]; exact Hl.out, hat.set k (by rw [Hl.out]; omega) _, hbr.setCell hlow _, Hv2.out, hme, he2, Hme.out, by omega⟩
                    case measure => simp only [intOf]; omega
            · have q2 : decide ((k : Int) + (n : Int) < 2 * (s.size : Int)) = false := decide_eq_false (by omega)
              have Hno := Lib.hid (arm_stop (s := s.data.toList) (k := k) (n := n) (fun hh => hc2 hh.2.1))
              go_wp2
              go_quiet (fail)
              have hat := hat.drewA nq
              have hbr := below_drewN hbr nq
              generalize World.drewN _ nq = wz at *
              obtain ⟨hck, hfk⟩ := hat.2 k (by rw [Hl.out]; omega)
              have Hv2 : Hid (∀ j, j < k + 1 → ∃ n' : Nat, (l.set k (n : Int)).getD j 0 = n' ∧ IsArm s.data.toList j n') := fun j hj => by
                rw [getD_set _ _ _ _ (by rw [Hl.out]; omega)]
                by_cases ej : j = k
                · exact ⟨n, by rw [if_pos ej], by rw [ej]; exact ⟨harm, Hno.out⟩⟩
                · rw [if_neg ej]; exact Hv.out j (by omega)
              by_cases hgt : e < k + n
              · have q5 : decide ((e : Int) < (k : Int) + (n : Int)) = true := decide_eq_true (by omega)
                go_wp2
                go_roundw
                case rel => exact ⟨k + 1, k, k + n, l.set k n, by omega, by go_num, rfl, by go_num, by rw [List.length_set]; exact Hl.out, hat.set k (by rw [Hl.out]; omega) _, hbr.setCell hlow _, Hv2.out, by omega, by omega, by rw [Nat.add_sub_cancel_left]; exact harm, .inl (by omega)⟩
                case measure => simp only [intOf]; omega
              · have q5 : decide ((e : Int) < (k : Int) + (n : Int)) = false := decide_eq_false (by omega)
                go_wp2
                go_roundw
                case rel => exact ⟨k + 1, mid, e, l.set k n, by omega, by go_num, rfl, rfl, by rw [List.length_set]; exact Hl.out, hat.set k (by rw [Hl.out]; omega) _, hbr.setCell hlow _, Hv2.out, hme, he2, Hme.out, by omega⟩
                case measure => simp only [intOf]; omega
          · have q1 : decide (n < k) = false := decide_eq_false hc1
            have q1' : decide ((0 : Int) < (k : Int) - (n : Int)) = false := decide_eq_false (by omega)
            have Hno := Lib.hid (arm_stop (s := s.data.toList) (k := k) (n := n) (fun hh => hc1 hh.1))
            go_wp2
            go_quiet (fail)
            have hat := hat.drewA nq
            have hbr := below_drewN hbr nq
            generalize World.drewN _ nq = wz at *
            obtain ⟨hck, hfk⟩ := hat.2 k (by rw [Hl.out]; omega)
            have Hv2 : Hid (∀ j, j < k + 1 → ∃ n' : Nat, (l.set k (n : Int)).getD j 0 = n' ∧ IsArm s.data.toList j n') := fun j hj => by
              rw [getD_set _ _ _ _ (by rw [Hl.out]; omega)]
              by_cases ej : j = k
              · exact ⟨n, by rw [if_pos ej], by rw [ej]; exact ⟨harm, Hno.out⟩⟩
              · rw [if_neg ej]; exact Hv.out j (by omega)
            by_cases hgt : e < k + n
            · have q5 : decide ((e : Int) < (k : Int) + (n : Int)) = true := decide_eq_true (by omega)
              go_wp2
              go_roundw
              case rel => exact ⟨k + 1, k, k + n, l.set k n, by omega, by go_num, rfl, by go_num, by rw [List.length_set]; exact Hl.out, hat.set k (by rw [Hl.out]; omega) _, hbr.setCell hlow _, Hv2.out, by omega, by omega, by rw [Nat.add_sub_cancel_left]; exact harm, .inl (by omega)⟩
              case measure => simp only [intOf]; omega
            · have q5 : decide ((e : Int) < (k : Int) + (n : Int)) = false := decide_eq_false (by omega)
              go_wp2
              go_roundw
              case rel => exact ⟨k + 1, mid, e, l.set k n, by omega, by go_num, rfl, rfl, by rw [List.length_set]; exact Hl.out, hat.set k (by rw [Hl.out]; omega) _, hbr.setCell hlow _, Hv2.out, hme, he2, Hme.out, by omega⟩
              case measure => simp only [intOf]; omega
    · obtain rfl : k = 2 * s.size + 1 := by omega
      go_wp2
      go_ret2
      exact ⟨g, l, rfl, Hl.out, hat, Hv.out, hbr⟩

set_option maxHeartbeats 400000 in
theorem arms_no (s : ByteArray) (hs : 200 < s.size) (w : World) :
    Calls Try.prog 22 #[.string s] w fun e w' => e = .returned (.tuple #[.slice none 0 0, .int .i64 2]) ∧ w = w' := by
  go_enter Try.func22, Try.ntmps22
  go_wp2_with fail
  refine (wordCheck_no s hs _).mono ?_
  rintro e w1 ⟨rfl, rfl⟩
  go_wp2
  go_ret2
  exact ⟨rfl, rfl⟩

end Go.Proofs.Ytmephgemokngnaa

/- The walk of mirror.Longest. -/
namespace Go.Proofs.Ytmephgemokngnaa
open Go.RowKit
set_option linter.unusedVariables false

/-- A longest arm among the first k middles: it is 0, or stands at a middle below k. -/
structure BestArm (f : Nat → Nat) (k a n : Nat) : Prop where
  most : ∀ j, j < k → f j ≤ n
  at_ : n = 0 ∧ a = 0 ∨ ∃ j, j < k ∧ f j = n ∧ a = (j - n) / 2
theorem mirrorArms_cell {w : World} {g n : Nat} {l : List Int} (h : IntsAt w g l) (hl : l.length = n) {j : Nat} (hj : j < n) : w.cell? ⟨g, j, none⟩ = some (.int .i64 (l.getD j 0)) := (h.2 j (by omega)).1

set_option maxRecDepth 100000 in
set_option maxHeartbeats 2000000 in
theorem longest_ok (s : ByteArray) (hs : s.size ≤ 200) (w : World) :
    Calls Try.prog 7 #[.string s] w fun e w' => ∃ (f : Nat → Nat) (a n : Nat), (∀ k, k < 2 * s.size + 1 → IsArm s.data.toList k (f k)) ∧ BestArm f (2 * s.size + 1) a n ∧ e = .returned (.tuple #[.string (s.extract a (a + n)), .int .i64 0]) ∧ Below w.heap.size w w' := by
  have HA := Lib.hid (arms_ok s hs)
  go_enter Try.func7, Try.ntmps7
  go_wp2_with fail
  refine (HA.out _).mono ?_
  rintro e w1 ⟨g, l, rfl, hl, hat, hv, hb1⟩
  obtain ⟨f, hf⟩ : ∃ f : Nat → Nat, ∀ j, f j = (l.getD j 0).toNat := ⟨fun j => (l.getD j 0).toNat, fun _ => rfl⟩
  have hfa : ∀ k, k < 2 * s.size + 1 → IsArm s.data.toList k (f k) ∧ l.getD k 0 = (f k : Int) := fun k hk => by
    obtain ⟨n, h1, h2⟩ := hv k hk
    have e : f k = n := by rw [hf, h1]; simp
    rw [e]
    exact ⟨h2, h1⟩
  obtain ⟨N, hN⟩ : ∃ N, N = 2 * s.size + 1 := ⟨_, rfl⟩
  rw [← hN] at hl hfa ⊢
  have Hfa := Lib.hid hfa
  have HN := Lib.hid hN
  have Hl := Lib.hid hl
  have hNb : N ≤ 401 := by omega
  clear HA hv hf hfa hl hN
  go_wp2
  go_loopw [6, 7, 8, 9, 20] (fun av nv _ _ iv wr => ∃ k a n : Nat, k ≤ N ∧ iv = .int .i64 k ∧ av = .int .i64 a ∧ nv = .int .i64 n ∧ a ≤ 400 ∧ n ≤ 400 ∧ Hid (BestArm f k a n) ∧ wr = w1) (fun _ _ _ _ iv _ => N - (intOf iv).toNat)
  case atStart => exact ⟨0, 0, 0, Nat.zero_le _, rfl, rfl, rfl, Nat.zero_le _, Nat.zero_le _, Lib.hid ⟨fun j hj => by omega, .inl ⟨rfl, rfl⟩⟩, rfl⟩
  case round =>
    obtain ⟨k, a, n, hk, rfl, rfl, rfl, ha, hn, Hb, rfl⟩ := hrel
    by_cases hlt : k < N
    · have c0 := mirrorArms_cell hat Hl.out hlt
      obtain ⟨hia, hle⟩ := Hfa.out k hlt
      rw [hle] at c0
      have hbd := isArm_bd hia
      rw [show s.data.toList.length = s.size from rfl] at hbd
      have hx4 : f k ≤ k := hbd.1
      clear hia hle hbd
      by_cases hbig : n < f k
      case' pos =>
        have hnew : BestArm f (k + 1) ((k - f k) / 2) (f k) := by
          refine ⟨fun j hj => ?_, .inr ⟨k, by omega, rfl, rfl⟩⟩
          rcases Nat.lt_or_ge j k with h1 | h1
          · have := Hb.out.most j h1; omega
          · obtain rfl : j = k := by omega
            exact Nat.le_refl _
        have Hnew := Lib.hid hnew
        clear hnew
        generalize f k = x at *
        have q1 : decide ((n : Int) < (x : Int)) = true := decide_eq_true (by omega)
        have q1' : decide (n < x) = true := decide_eq_true hbig
        have e1 : ((k : Int) - (x : Int)).tdiv 2 = (((k - x) / 2 : Nat) : Int) := by rw [Int.tdiv_eq_ediv_of_nonneg (by omega)]; omega
        have e1' : ((k : Int) - (x : Int)) / 2 = (((k - x) / 2 : Nat) : Int) := by omega
        have hz : (k - x) / 2 ≤ 400 := by omega
        generalize (k - x) / 2 = z at *
        go_wp2
        go_roundw
        case rel => exact ⟨k + 1, z, x, by omega, by go_num, rfl, rfl, hz, by omega, Lib.hid Hnew.out, trivial⟩
        case measure => simp [intOf]; omega
      case' neg =>
        have hnew : BestArm f (k + 1) a n := by
          refine ⟨fun j hj => ?_, ?_⟩
          · rcases Nat.lt_or_ge j k with h1 | h1
            · exact Hb.out.most j h1
            · obtain rfl : j = k := by omega
              omega
          · rcases Hb.out.at_ with h1 | ⟨j, h1, h2, h3⟩
            · exact .inl h1
            · exact .inr ⟨j, by omega, h2, h3⟩
        have Hnew := Lib.hid hnew
        clear hnew
        generalize f k = x at *
        have q1 : decide ((n : Int) < (x : Int)) = false := decide_eq_false (by omega)
        have q1' : decide (n < x) = false := decide_eq_false hbig
        go_wp2
        go_roundw
        case rel => exact ⟨k + 1, a, n, by omega, by go_num, rfl, rfl, ha, hn, Lib.hid Hnew.out, trivial⟩
        case measure => simp [intOf]; omega
    · obtain rfl : k = N := by omega
      have han : a + n ≤ s.size := by
        rcases Hb.out.at_ with ⟨h1, h2⟩ | ⟨j, h1, h2, h3⟩
        · omega
        · have := isArm_bd (Hfa.out j h1).1
          rw [show s.data.toList.length = s.size from rfl, h2] at this
          omega
      obtain ⟨p, hp⟩ : ∃ p, p = a + n := ⟨_, rfl⟩
      have wp : IntKind.i64.wrap ((a : Int) + (n : Int)) = (p : Int) := by rw [hp]; rw [IntKind.wrap_i64]; omega
      have h1 : a ≤ p := by omega
      have h2 : p ≤ s.size := by omega
      have h1' : (a : Int) ≤ p := by omega
      have h2' : (p : Int) ≤ s.size := by omega
      have HP := Lib.hid hp
      clear hp
      go_wp2
      go_ret2
      exact ⟨f, a, n, fun j hj => (Hfa.out j (by rw [HN.out]; exact hj)).1, by rw [← HN.out]; exact Hb.out, by rw [← HP.out]; rfl, hb1⟩
theorem longest_no (s : ByteArray) (hs : 200 < s.size) (w : World) :
    Calls Try.prog 7 #[.string s] w fun e w' => e = .returned (.tuple #[.string ⟨#[]⟩, .int .i64 2]) ∧ w = w' := by
  have HA := Lib.hid (arms_no s hs)
  go_enter Try.func7, Try.ntmps7
  go_wp2_with fail
  refine (HA.out _).mono ?_
  rintro e w1 ⟨rfl, rfl⟩
  go_wp2
  go_ret2
  exact ⟨rfl, rfl⟩
end Go.Proofs.Ytmephgemokngnaa

/- StrSort: contracts of the library laid at this program: the tables of numbers and the facts that they ask. -/
namespace Go.Proofs.Ytmephgemokngnaa
open Go.RowKit
set_option linter.unusedVariables false

def layStrSort_ren : Go.Shelf.Ren := ⟨fun | 190 => 43 | 125 => 55 | 258 => 58 | 128 => 69 | 129 => 70 | 302 => 73 | 303 => 74 | 304 => 75 | 305 => 76 | 306 => 77 | 307 => 78 | 308 => 79 | 309 => 80 | 310 => 81 | 333 => 87 | 329 => 83 | 330 => 84 | 334 => 88 | 335 => 89 | 336 => 90 | 344 => 92 | n => n, fun | 31 => 36 | 9 => 9 | 3 => 3 | 46 => 57 | 0 => 0 | 51 => 78 | 53 => 81 | 4 => 4 | 183 => 93 | 182 => 92 | 131 => 97 | 5 => 5 | 218 => 106 | 222 => 110 | 228 => 114 | 229 => 115 | 20 => 20 | n => n, fun | n => n⟩
theorem layStrSort : Go.Proofs.Lays.n190 Try.prog layStrSort_ren := {
  mixed := by kernel_rfl,
  f125 := Try.func55.trans (congrArg some (by kernel_rfl)),
  f128 := Try.func69.trans (congrArg some (by kernel_rfl)),
  f129 := Try.func70.trans (congrArg some (by kernel_rfl)),
  f190 := Try.func43.trans (congrArg some (by kernel_rfl)),
  f258 := Try.func58.trans (congrArg some (by kernel_rfl)),
  f302 := Try.func73.trans (congrArg some (by kernel_rfl)),
  f303 := Try.func74.trans (congrArg some (by kernel_rfl)),
  f304 := Try.func75.trans (congrArg some (by kernel_rfl)),
  f305 := Try.func76.trans (congrArg some (by kernel_rfl)),
  f306 := Try.func77.trans (congrArg some (by kernel_rfl)),
  f307 := Try.func78.trans (congrArg some (by kernel_rfl)),
  f308 := Try.func79.trans (congrArg some (by kernel_rfl)),
  f309 := Try.func80.trans (congrArg some (by kernel_rfl)),
  f310 := Try.func81.trans (congrArg some (by kernel_rfl)),
  f329 := Try.func83.trans (congrArg some (by kernel_rfl)),
  f330 := Try.func84.trans (congrArg some (by kernel_rfl)),
  f333 := Try.func87.trans (congrArg some (by kernel_rfl)),
  f334 := Try.func88.trans (congrArg some (by kernel_rfl)),
  f335 := Try.func89.trans (congrArg some (by kernel_rfl)),
  f336 := Try.func90.trans (congrArg some (by kernel_rfl)),
  f344 := Try.func92.trans (congrArg some (by kernel_rfl)),
  t0 := Try.underlying0,
  a0 := Try.isAgg0,
  z0 := Try.sizeOf0,
  v0 := Try.zeroValue0,
  t3 := Try.underlying3,
  a3 := Try.isAgg3,
  z3 := Try.sizeOf3,
  v3 := Try.zeroValue3,
  t4 := Try.underlying4,
  a4 := Try.isAgg4,
  z4 := Try.sizeOf4,
  v4 := Try.zeroValue4,
  t5 := Try.underlying5,
  a5 := Try.isAgg5,
  z5 := Try.sizeOf5,
  v5 := Try.zeroValue5,
  t9 := Try.underlying9,
  a9 := Try.isAgg9,
  z9 := Try.sizeOf9,
  v9 := Try.zeroValue9,
  t31 := Try.underlying36,
  a31 := Try.isAgg36,
  z31 := Try.sizeOf36,
  v31 := Try.zeroValue36,
  t46 := Try.underlying57,
  a46 := Try.isAgg57,
  z46 := Try.sizeOf57,
  v46 := Try.zeroValue57,
  t51 := Try.underlying78,
  a51 := Try.isAgg78,
  z51 := Try.sizeOf78,
  v51 := Try.zeroValue78,
  t53 := Try.underlying81,
  a53 := Try.isAgg81,
  z53 := Try.sizeOf81,
  v53 := Try.zeroValue81,
  t131 := Try.underlying97,
  a131 := Try.isAgg97,
  z131 := Try.sizeOf97,
  v131 := Try.zeroValue97,
  t182 := Try.underlying92,
  a182 := Try.isAgg92,
  z182 := Try.sizeOf92,
  v182 := Try.zeroValue92,
  t183 := Try.underlying93,
  a183 := Try.isAgg93,
  z183 := Try.sizeOf93,
  v183 := Try.zeroValue93,
  t218 := Try.underlying106,
  a218 := Try.isAgg106,
  z218 := Try.sizeOf106,
  v218 := Try.zeroValue106,
  t222 := Try.underlying110,
  a222 := Try.isAgg110,
  z222 := Try.sizeOf110,
  v222 := Try.zeroValue110,
  t228 := Try.underlying114,
  a228 := Try.isAgg114,
  z228 := Try.sizeOf114,
  v228 := Try.zeroValue114,
  t229 := Try.underlying115,
  a229 := Try.isAgg115,
  z229 := Try.sizeOf115,
  v229 := Try.zeroValue115 }

end Go.Proofs.Ytmephgemokngnaa

/- CompactStr: contracts of the library laid at this program: the tables of numbers and the facts that they ask. -/
namespace Go.Proofs.Ytmephgemokngnaa
open Go.RowKit
set_option linter.unusedVariables false

def layCompactStr_ren : Go.Shelf.Ren := ⟨fun | 194 => 44 | n => n, fun | 31 => 36 | 9 => 9 | 3 => 3 | 4 => 4 | 0 => 0 | 20 => 20 | n => n, fun | n => n⟩
theorem layCompactStr : Go.Proofs.Lays.n194 Try.prog layCompactStr_ren := {
  mixed := by kernel_rfl,
  f194 := Try.func44.trans (congrArg some (by kernel_rfl)),
  t0 := Try.underlying0,
  a0 := Try.isAgg0,
  z0 := Try.sizeOf0,
  v0 := Try.zeroValue0,
  t3 := Try.underlying3,
  a3 := Try.isAgg3,
  z3 := Try.sizeOf3,
  v3 := Try.zeroValue3,
  t4 := Try.underlying4,
  a4 := Try.isAgg4,
  z4 := Try.sizeOf4,
  v4 := Try.zeroValue4,
  t9 := Try.underlying9,
  a9 := Try.isAgg9,
  z9 := Try.sizeOf9,
  v9 := Try.zeroValue9,
  t31 := Try.underlying36,
  a31 := Try.isAgg36,
  z31 := Try.sizeOf36,
  v31 := Try.zeroValue36 }

end Go.Proofs.Ytmephgemokngnaa

/- slices.Sort and slices.Compact of strings that lie in a row of one's own. -/
namespace Go.Proofs.Ytmephgemokngnaa
open Go.RowKit Go.Sort Go.Shelf Go.Lib
set_option linter.unusedVariables false

theorem putRow_map {α : Type} [Inhabited α] (enc : α → Value) (w : World) (g o : Nat) (d : Array α) : putRow enc w g o d = putRow id w g o (d.map enc) := by
  have e : putCells enc o d = putCells id o (d.map enc) := funext fun cs => by
    refine Array.ext (by simp [putCells]) fun j h1 h2 => ?_
    simp only [putCells, Array.getElem_mapIdx, id, Array.size_map]
    by_cases h : o ≤ j ∧ j < o + d.size
    · rw [if_pos h, if_pos h, getElem!_pos d _ (by omega), getElem!_pos (d.map enc) _ (by simp; omega), Array.getElem_map]
    · rw [if_neg h, if_neg h]
  unfold putRow
  rw [e]
theorem holds_strs {w : World} {K : Nat → Prop} {blk o n c : Nat} {zs : List (List UInt8)} (hn : zs.length = n) (h : OwnK 9 1 w K (some ⟨blk, o, none⟩) n c (zs.map encStr)) : Holds encStr w blk o zs.toArray := fun j hj => by
  have hj' : j < zs.length := by simpa using hj
  have := h.cell j (by omega)
  refine ⟨?_, this.2⟩
  rw [this.1, List.getElem?_map, getElem!_pos zs.toArray j hj, List.getElem?_eq_getElem hj']; simp
theorem own_same {w w' : World} {r : Option Nat} (h : w' = w) : w.grownBy w' r := by
  subst h
  exact ⟨rfl, rfl, rfl, Nat.le_refl _, fun k hk _ => rfl⟩
/-- slices.Sort of strings. -/
theorem strSort_any (K : Nat → Prop) (A : Option Addr) (n c : Nat) (zs : List (List UInt8)) (w : World) (hn : zs.length = n) (h : OwnK 9 1 w K A n c (zs.map encStr)) (hsz : n < 4611686018427387904) :
    Calls Try.prog 43 #[.slice A n c] w fun e w' => e = .returned (.tuple #[]) ∧ OwnK 9 1 w' K A n c ((zs.mergeSort fun x y => decide (x ≤ y)).map encStr) ∧ w.grownBy w' (Value.slice A n c).ownBlock := by
  subst hn
  rcases Nat.eq_zero_or_pos zs.length with h0 | h0
  · have hz := List.eq_nil_of_length_eq_zero h0
    subst hz
    have hS := Any.slices_Sort_string_none layStrSort A c w
    change Calls Try.prog 43 _ _ _ at hS
    exact hS.mono fun e w' ⟨he, hw⟩ => ⟨he, by rw [hw]; simpa using h, own_same hw⟩
  · obtain ⟨blk, o, rfl, hlt, _⟩ := h.shape h0
    have hS := Any.slices_Sort_string layStrSort blk o c zs w (holds_strs rfl h) hlt hsz
    change Calls Try.prog 43 _ _ _ at hS
    refine hS.mono fun e w' ⟨he, m, os, hw⟩ => ⟨he, ?_, ?_⟩
    · rw [hw, putRow_map]
      have := h.sorted (F := ((zs.mergeSort fun x y => decide (x ≤ y)).toArray.map encStr)) (by simp) m os
      simpa using this
    · rw [hw, putRow_map]
      exact grownBy_put _
/-- slices.Compact of strings: how many it leaves. -/
theorem strCompact_any (K : Nat → Prop) (A : Option Addr) (n c : Nat) (zs : List (List UInt8)) (w : World) (hn : zs.length = n) (h : OwnK 9 1 w K A n c (zs.map encStr)) (hsz : n < 4611686018427387904) :
    Calls Try.prog 44 #[.slice A n c] w fun e w' => e = .returned (.slice A (Lib.compact zs).length c) ∧ w.grownBy w' (Value.slice A n c).ownBlock := by
  subst hn
  rcases Nat.eq_zero_or_pos zs.length with h0 | h0
  · have hz := List.eq_nil_of_length_eq_zero h0
    subst hz
    have hS := Any.slices_Compact_string_empty layCompactStr A c w
    change Calls Try.prog 44 _ _ _ at hS
    exact hS.mono fun e w' ⟨he, hw⟩ => ⟨he, own_same hw⟩
  · obtain ⟨blk, o, rfl, hlt, _⟩ := h.shape h0
    have hS := Any.slices_Compact_string layCompactStr blk o c zs w (holds_strs rfl h) (by omega) h.cap.1
    change Calls Try.prog 44 _ _ _ at hS
    refine hS.mono fun e w' ⟨he, q, hw⟩ => ⟨he, ?_⟩
    rw [hw, putRow_map]
    have := grownBy_put (w := w) (g := blk) (o := o) (n := q) (os := #[]) ((Lib.compact zs ++ List.replicate (zs.length - (Lib.compact zs).length) []).toArray.map encStr)
    rwa [grow_empty] at this
end Go.Proofs.Ytmephgemokngnaa

/- The walk of mirror.Unlike. -/
namespace Go.Proofs.Ytmephgemokngnaa
open Go.RowKit Go.Sort
set_option linter.unusedVariables false

theorem palK_pos (s : List UInt8) (k : Nat) : ∀ {x : Nat}, 0 < x → palK s k x = seg s ((k - x) / 2) x :: palK s k (x - 2)
  | 1, _ => rfl
  | x + 2, _ => rfl
theorem palK_len (s : List UInt8) (k : Nat) : ∀ x, (palK s k x).length ≤ x
  | 0 => Nat.le_refl _
  | 1 => by simp [palK]
  | x + 2 => by
    have := palK_len s k x
    rw [palK, List.length_cons]; omega
theorem palA_len {s : List UInt8} {f : Nat → Nat} {N : Nat} (h : ∀ k, k < N → f k ≤ 200) : ∀ k, k ≤ N → (palA s f k).length ≤ k * 200
  | 0, _ => by simp [palA]
  | k + 1, hk => by
    rw [palA_succ, List.length_append]
    have h1 := palA_len (s := s) h k (by omega)
    have h2 := palK_len s k (f k)
    have h3 := h k (by omega)
    omega
theorem ext_seg (s : ByteArray) (a b : Nat) : s.extract a b = ⟨(seg s.data.toList a (b - a)).toArray⟩ := str_ext (by
  rw [Lib.extract_data]; rfl)

set_option maxRecDepth 100000 in
set_option maxHeartbeats 4000000 in
theorem unlike_ok (s : ByteArray) (hs : s.size ≤ 200) (w : World) :
    Calls Try.prog 21 #[.string s] w fun e w' => ∃ n : Nat, Many (Pal s.data.toList) n ∧ e = .returned (.tuple #[.int .i64 (n : Int), .int .i64 0]) ∧ Below w.heap.size w w' := by
  have HA := Lib.hid (arms_ok s hs)
  have hinfo : (Try.prog.info? 9).map (fun i => (i.zero, i.size, i.bytes)) = some (some (.string ByteArray.empty), 1, 16) := by kernel_rfl
  go_enter Try.func21, Try.ntmps21
  go_wp2_with fail
  refine (HA.out _).mono ?_
  rintro e w1 ⟨g, l, rfl, hl, hat, hv, hb1⟩
  obtain ⟨f, hf⟩ : ∃ f : Nat → Nat, ∀ j, f j = (l.getD j 0).toNat := ⟨fun j => (l.getD j 0).toNat, fun _ => rfl⟩
  have hfa : ∀ k, k < 2 * s.size + 1 → IsArm s.data.toList k (f k) ∧ l.getD k 0 = (f k : Int) := fun k hk => by
    obtain ⟨n, h1, h2⟩ := hv k hk
    have e : f k = n := by rw [hf, h1]; simp
    rw [e]
    exact ⟨h2, h1⟩
  have hmem := fun y => palA_mem (s := s.data.toList) (f := f) (fun k hk => (hfa k hk).1) (y := y)
  have hf200 : ∀ k, k < 2 * s.size + 1 → f k ≤ 200 := fun k hk => by
    have := isArm_bd (hfa k hk).1
    rw [show s.data.toList.length = s.size from rfl] at this
    omega
  have hall := palA_len (s := s.data.toList) hf200
  rw [show s.data.toList.length = s.size from rfl] at hmem
  obtain ⟨N, hN⟩ : ∃ N, N = 2 * s.size + 1 := ⟨_, rfl⟩
  rw [← hN] at hl hfa hmem hf200 hall ⊢
  have Hfa := Lib.hid hfa
  have HN := Lib.hid hN
  have Hl := Lib.hid hl
  have Hmem := Lib.hid hmem
  have Hf2 := Lib.hid hf200
  have Hall := Lib.hid hall
  have hNb : N ≤ 401 := by omega
  have hgl := hat.1
  clear HA hv hf hfa hl hN hmem hf200 hall
  go_wp2
  go_loopw [6, 7, 8, 19] (fun ov _ _ iv wr => ∃ (k m : Nat) (A' : Option Addr) (c' : Nat), k ≤ N ∧ iv = .int .i64 k ∧ ov = .slice A' m c' ∧ Hid (m = (palA s.data.toList f k).length) ∧ OwnK 9 1 wr (· < w1.heap.size) A' m c' ((palA s.data.toList f k).map encStr) ∧ Below w1.heap.size w1 wr) (fun _ _ _ iv _ => N - (intOf iv).toNat)
  case atStart => exact ⟨0, 0, none, 0, Nat.zero_le _, rfl, rfl, Lib.hid rfl, OwnK.nil _ _ _ _, Below.refl _ _⟩
  case round =>
    obtain ⟨k, m, A', c', hk, rfl, rfl, Hm, hown, hbr⟩ := hrel
    by_cases hlt : k < N
    · have c0 := mirrorArms_cell (hat.below hbr hgl) Hl.out hlt
      obtain ⟨hia, hle⟩ := Hfa.out k hlt
      rw [hle] at c0
      have hbd := isArm_bd hia
      have hpar := isArm_parity hia
      rw [show s.data.toList.length = s.size from rfl] at hbd
      have h200 := Hf2.out k hlt
      have hlen := Hall.out k hk
      have hsucc := palA_succ s.data.toList f k
      have Hsucc := Lib.hid hsucc
      have HP0 := Lib.hid (rfl : palK s.data.toList k (f k) = palK s.data.toList k (f k))
      obtain ⟨D0, hD0⟩ : ∃ D, D = palA s.data.toList f k := ⟨_, rfl⟩
      obtain ⟨D1, hD1⟩ : ∃ D, D = palA s.data.toList f (k + 1) := ⟨_, rfl⟩
      have hm := Hm.out
      rw [← hD0] at hown hm hlen
      have Hm0 := Lib.hid hm
      clear hm Hm
      have hfin : D0 ++ palK s.data.toList k (f k) = D1 := by rw [hD0, hD1, hsucc]
      have hx4 : f k ≤ k := hbd.1
      have hx5 : k + f k ≤ 2 * s.size := hbd.2
      have hD1l : D1.length ≤ 401 * 200 := by
        rw [hD1]
        exact Nat.le_trans (Hall.out (k + 1) hlt) (Nat.mul_le_mul_right 200 (Nat.le_trans hlt hNb))
      have HD1 := Lib.hid hD1
      clear hia hle hbd hsucc Hsucc HP0 hD0 hD1 hlen
      generalize f k = x0 at *
      go_wp2
      go_loopw [6, 8] (fun ov xv wq => ∃ (x : Int) (D : List (List UInt8)) (m : Nat) (A' : Option Addr) (c' : Nat), xv = .int .i64 x ∧ -1 ≤ x ∧ x ≤ x0 ∧ (0 < x → (x.toNat + k) % 2 = 0) ∧ ov = .slice A' m c' ∧ Hid (m = D.length) ∧ OwnK 9 1 wq (· < w1.heap.size) A' m c' (D.map encStr) ∧ Hid (D ++ palK s.data.toList k x.toNat = D1) ∧ Below w1.heap.size w1 wq) (fun _ xv _ => (intOf xv + 2).toNat)
      case atStart => exact ⟨(x0 : Int), D0, m, A', c', rfl, by omega, by omega, fun _ => by omega, rfl, Lib.hid Hm0.out, hown, Lib.hid (by rw [Int.toNat_natCast]; exact hfin), hbr⟩
      case round =>
        clear hown hbr c0 hfin Hm0
        obtain ⟨x, D, m, A', c', rfl, hx1, hx2, hxp, rfl, Hm, hown, HD, hbr⟩ := hrel
        have hbs := hbr.size
        by_cases hpos : 0 < x
        · obtain ⟨y, rfl⟩ : ∃ y : Nat, x = y := ⟨x.toNat, by omega⟩
          have hyp := hxp hpos
          have hD := HD.out
          rw [Int.toNat_natCast] at hD hyp
          have hy0 : 0 < y := by omega
          rw [palK_pos s.data.toList k hy0] at hD
          have hDl : D.length ≤ 401 * 200 := by
            refine Nat.le_trans ?_ hD1l
            rw [← hD, List.length_append]
            exact Nat.le_add_right _ _
          obtain ⟨a, ha⟩ : ∃ a, k = y + 2 * a := ⟨(k - y) / 2, by omega⟩
          have e1 : (k - y) / 2 = a := by omega
          rw [e1] at hD
          have q1 : decide ((0 : Int) < (y : Int)) = true := decide_eq_true hpos
          have t1 : ((k : Int) - (y : Int)).tdiv 2 = (a : Int) := by rw [Int.tdiv_eq_ediv_of_nonneg (by omega)]; omega
          have t1' : ((k : Int) - (y : Int)) / 2 = (a : Int) := by omega
          obtain ⟨b, hb⟩ : ∃ b, b = a + y := ⟨_, rfl⟩
          have t2 : ((k : Int) + (y : Int)).tdiv 2 = (b : Int) := by rw [Int.tdiv_eq_ediv_of_nonneg (by omega)]; omega
          have t2' : ((k : Int) + (y : Int)) / 2 = (b : Int) := by omega
          have hab : a ≤ b := by omega
          have hbs2 : b ≤ s.size := by omega
          have hab' : (a : Int) ≤ b := by omega
          have hbs2' : (b : Int) ≤ s.size := by omega
          have hba : b - a = y := by omega
          have hX := ext_seg s a b
          rw [hba] at hX
          have hD2 : (D ++ [seg s.data.toList a y]) ++ palK s.data.toList k ((y : Int) - 2).toNat = D1 := by
            rw [show ((y : Int) - 2).toNat = y - 2 from by clear hD; omega, List.append_assoc, ← hD]
            rfl
          have HD2 := Lib.hid hD2
          have HX := Lib.hid hX
          have Hpar : Hid ((0 : Int) < (y : Int) - 2 → (((y : Int) - 2).toNat + k) % 2 = 0) := Lib.hid fun h => by omega
          have hcl : ∀ j, j < 1 → (wr.alloc (Obj.cells #[.string (s.extract a b)] 9)).cell? ((⟨wr.heap.size, 0, none⟩ : Addr).add j) = ([.string (s.extract a b)] : List Value)[j]? := fun j hj => by
            obtain rfl : j = 0 := by omega
            rw [add_at, World.cell?_alloc_mark]; rfl
          have hmD : m ≤ 80200 := by rw [Hm.out]; exact hDl
          have hk8 : m ≤ 8000000000000 := by omega
          have hk9 : (m + 1) * 16 ≤ 140737488355328 := by omega
          clear hD hD2 hX HD ha e1 hb hba hyp hxp hDl
          go_wp2_with (first | (at_builtin; go_must (refine wpList_append_K rfl (.tmp 28) (.tmp 39) 36 rfl (· < w1.heap.size) (.string ByteArray.empty) 16 hinfo Try.underlying36 rfl (by decide) (by decide) A' m c' _ rfl (hown.alloc (Obj.cells #[.string (s.extract a b)] 9)) ⟨wr.heap.size, 0, none⟩ 1 [.string (s.extract a b)] rfl rfl (by simp [Value.oneCell']) hcl hk9 hk8 (fun k hk => by simp; omega) ?_); intro A3 c3 w3 hown3 hg3 hp3))
          have hb3 : Below w1.heap.size w1 w3 := (hbr.alloc hbs _).grown hg3 (by simp; omega) (fun g hg => by have := (hown.lt g hg).1; omega)
          have e9 : D.map encStr ++ [Value.string (s.extract a b)] = (D ++ [seg s.data.toList a y]).map encStr := by rw [List.map_append, HX.out]; rfl
          rw [e9] at hown3
          clear hown hcl e9 t1 t1' t2 t2'
          go_wp2
          go_roundw
          case rel => exact ⟨(y : Int) - 2, D ++ [seg s.data.toList a y], m + 1, A3, c3, by go_num, by omega, by omega, Hpar.out, rfl, Lib.hid (by rw [List.length_append, Hm.out]; rfl), hown3, Lib.hid HD2.out, hb3⟩
          case measure => simp only [intOf]; omega
        · have q1 : decide ((0 : Int) < x) = false := decide_eq_false hpos
          have hD := HD.out
          rw [show x.toNat = 0 by omega] at hD
          have hD' : D = D1 := by rw [← hD]; exact (List.append_nil D).symm
          subst hD'
          go_wp2
          go_roundw
          case rel => exact ⟨k + 1, m, A', c', by omega, by go_num, rfl, Lib.hid (by rw [Hm.out, HD1.out]), by rw [← HD1.out]; exact hown, hbr⟩
          case measure => simp [intOf]; omega
    · obtain rfl : k = N := by omega
      clear hlt
      have hlen := Hall.out k (Nat.le_refl _)
      have hm := Hm.out
      have HM := Lib.hid (compact_many (P := Pal s.data.toList) (l := palA s.data.toList f k) (fun y => Hmem.out y))
      obtain ⟨Z, hZ⟩ : ∃ Z, Z = palA s.data.toList f k := ⟨_, rfl⟩
      rw [← hZ] at hown hm hlen HM
      have hS := strSort_any (· < w1.heap.size) A' m c' Z wr hm.symm hown (Nat.lt_of_le_of_lt (by rw [hm]; exact Nat.le_trans hlen (Nat.mul_le_mul_right 200 hNb)) (show 401 * 200 < 4611686018427387904 by decide))
      have HS := Lib.hid hS
      have Hlt := Lib.hid hown.lt
      have hbw := chain hbr hb1
      obtain ⟨Y, hY⟩ : ∃ Y, Y = Z.mergeSort fun x y => decide (x ≤ y) := ⟨_, rfl⟩
      have hYl : Y.length = m := by rw [hY, List.length_mergeSort]; exact hm.symm
      rw [← hY] at HS HM
      have HYl := Lib.hid hYl
      have hmb : m ≤ 80200 := by rw [hm]; exact Nat.le_trans hlen (Nat.mul_le_mul_right 200 hNb)
      have hms : w.heap.size ≤ w1.heap.size := hb1.size
      clear hS hown hYl hY hZ hm Hm hlen
      go_wp2_with fail
      refine HS.out.mono ?_
      rintro e w5 ⟨rfl, hown5, hg5⟩
      have hb5 : Below w.heap.size w w5 := hbw.grown hg5 hbw.size (fun g hg => by have := (Hlt.out g hg).1; omega)
      have HC := Lib.hid (strCompact_any (· < w1.heap.size) A' m c' Y w5 HYl.out hown5 (by omega))
      have Hlt5 := Lib.hid hown5.lt
      clear HS hown5 hg5 hbw
      go_wp2_with fail
      refine HC.out.mono ?_
      rintro e w6 ⟨rfl, hg6⟩
      have hb6 : Below w.heap.size w w6 := hb5.grown hg6 hb5.size (fun g hg => by have := (Hlt5.out g hg).1; omega)
      clear HC hg6
      generalize (Lib.compact Y).length = n at *
      go_wp2
      go_ret2
      exact ⟨n, HM.out, rfl, hb6⟩
end Go.Proofs.Ytmephgemokngnaa

/- Plain: where a word stands in a text (Knuth, Morris, Pratt). -/
namespace Go.Proofs.Ytmephgemokngnaa
set_option linter.unusedVariables false

/-- The last k of the first i bytes are the word's first ones. -/
def Mt (s p : List UInt8) (k i : Nat) : Prop := k ≤ i ∧ k ≤ p.length ∧ ∀ j, j < k → p.getD j 0 = s.getD (i - k + j) 0
instance (s p : List UInt8) (k i : Nat) : Decidable (Mt s p k i) := by unfold Mt; exact inferInstance
/-- The most of them. -/
def LMt (s p : List UInt8) (k i : Nat) : Prop := Mt s p k i ∧ ∀ c, Mt s p c i → c ≤ k
theorem mt_zero (s p : List UInt8) (i : Nat) : Mt s p 0 i := ⟨by omega, by omega, fun j hj => by omega⟩
theorem lmt_start (s p : List UInt8) : LMt s p 0 0 := ⟨mt_zero s p 0, fun c hc => by have := hc.1; omega⟩
theorem mt_step (s p : List UInt8) (k i : Nat) : Mt s p (k + 1) (i + 1) ↔ Mt s p k i ∧ k < p.length ∧ p.getD k 0 = s.getD i 0 := by
  constructor
  · rintro ⟨h1, h2, h3⟩
    refine ⟨⟨by omega, by omega, fun j hj => ?_⟩, by omega, ?_⟩
    · have := h3 j (by omega)
      rwa [show i + 1 - (k + 1) + j = i - k + j from by omega] at this
    · have := h3 k (by omega)
      rwa [show i + 1 - (k + 1) + k = i from by omega] at this
  · rintro ⟨⟨h1, h2, h3⟩, h4, h5⟩
    refine ⟨by omega, by omega, fun j hj => ?_⟩
    rw [show i + 1 - (k + 1) + j = i - k + j from by omega]
    by_cases e : j = k
    · rw [e, h5, show i - k + k = i from by omega]
    · exact h3 j (by omega)
theorem mt_border {s p : List UInt8} {k i c : Nat} (h : Mt s p k i) (hb : Bd p k c) : Mt s p c i := by
  refine ⟨by have := h.1; have := hb.1; omega, by have := h.2.1; have := hb.1; omega, fun j hj => ?_⟩
  have h1 := hb.2 j hj
  have h2 := h.2.2 (k - c + j) (by have := hb.1; omega)
  rw [h1, h2]
  have := h.1; have := hb.1
  congr 1; omega
theorem mt_inner {s p : List UInt8} {k i c : Nat} (h : Mt s p k i) (h' : Mt s p c i) (hc : c < k) : Bd p k c := by
  refine ⟨hc, fun j hj => ?_⟩
  have h1 := h'.2.2 j hj
  have h2 := h.2.2 (k - c + j) (by omega)
  rw [h1, h2]
  have := h.1
  congr 1; omega
/-- What holds in the loop that looks for the next one. -/
def CMt (s p : List UInt8) (k i : Nat) : Prop := Mt s p k i ∧ ∀ c, Mt s p c i → c < p.length → p.getD c 0 = s.getD i 0 → c ≤ k
theorem cmt_start {s p : List UInt8} {k i : Nat} (h : LMt s p k i) : CMt s p k i := ⟨h.1, fun c hc _ _ => h.2 c hc⟩
theorem cmt_next {s p : List UInt8} {k i : Nat} (h : CMt s p k i) (hk : 0 < k) (hne : k = p.length ∨ p.getD k 0 ≠ s.getD i 0) : CMt s p (pi p k) i := by
  refine ⟨mt_border h.1 (pi_bd p hk), fun c hc hcl he => ?_⟩
  have h1 := h.2 c hc hcl he
  have h2 : c < k := by
    rcases Nat.lt_or_ge c k with h3 | h3
    · exact h3
    · have e : c = k := by omega
      subst e
      rcases hne with h4 | h4
      · omega
      · exact absurd he h4
  exact pi_max p (mt_inner h.1 hc h2)
theorem cmt_hit {s p : List UInt8} {k i : Nat} (h : CMt s p k i) (hk : k < p.length) (he : p.getD k 0 = s.getD i 0) : LMt s p (k + 1) (i + 1) := by
  refine ⟨(mt_step s p k i).2 ⟨h.1, hk, he⟩, fun c hc => ?_⟩
  cases c with
  | zero => omega
  | succ c =>
    obtain ⟨h1, h2, h3⟩ := (mt_step s p c i).1 hc
    have := h.2 c h1 h2 h3
    omega
theorem cmt_miss {s p : List UInt8} {i : Nat} (h : CMt s p 0 i) (he : p.getD 0 0 ≠ s.getD i 0) : LMt s p 0 (i + 1) := by
  refine ⟨mt_zero s p (i + 1), fun c hc => ?_⟩
  cases c with
  | zero => omega
  | succ c =>
    obtain ⟨h1, h2, h3⟩ := (mt_step s p c i).1 hc
    have := h.2 c h1 h2 h3
    rw [show c = 0 from by omega] at h3
    exact absurd h3 he

/-- Where it stands, as far as the first i bytes tell. -/
def foundOf (s p : List UInt8) : Nat → List Nat
  | 0 => []
  | i + 1 => foundOf s p i ++ if Mt s p p.length (i + 1) then [i + 1 - p.length] else []
theorem foundOf_length (s p : List UInt8) : ∀ i, (foundOf s p i).length ≤ i
  | 0 => Nat.le_refl _
  | i + 1 => by
    have := foundOf_length s p i
    rw [foundOf, List.length_append]
    split <;> simp <;> omega
theorem lmt_found {s p : List UInt8} {k i : Nat} (h : LMt s p k i) : Mt s p p.length i ↔ k = p.length := by
  constructor
  · intro h1
    have := h.2 _ h1
    have := h.1.2.1
    omega
  · rintro rfl
    exact h.1
/-- It stands there. -/
def Occ (s p : List UInt8) (x : Nat) : Prop := x + p.length ≤ s.length ∧ ∀ j, j < p.length → p.getD j 0 = s.getD (x + j) 0
theorem occ_prefix (s p : List UInt8) (x : Nat) (hx : x ≤ s.length) : Occ s p x ↔ p <+: s.drop x := by
  rw [List.prefix_iff_eq_take]
  constructor
  · rintro ⟨h1, h2⟩
    refine ext_getD _ _ 0 (by rw [List.length_take, List.length_drop]; omega) fun j hj => ?_
    rw [getD_take _ _ _ _ hj, getD_drop]
    exact h2 j hj
  · intro h
    have hl := congrArg List.length h
    rw [List.length_take, List.length_drop] at hl
    refine ⟨by omega, fun j hj => ?_⟩
    conv => lhs; rw [h]
    rw [getD_take _ _ _ _ hj, getD_drop]
theorem mem_found (s p : List UInt8) (hp : 0 < p.length) (x : Nat) : ∀ i, i ≤ s.length → (x ∈ foundOf s p i ↔ x + p.length ≤ i ∧ Occ s p x)
  | 0, _ => ⟨fun h => by simp [foundOf] at h, fun ⟨h, _⟩ => by omega⟩
  | i + 1, hi => by
    rw [foundOf, List.mem_append, mem_found s p hp x i (by omega)]
    constructor
    · rintro (⟨h1, h2⟩ | h)
      · exact ⟨by omega, h2⟩
      · by_cases e : Mt s p p.length (i + 1)
        · rw [if_pos e, List.mem_singleton] at h
          have := e.1
          refine ⟨by omega, by omega, fun j hj => ?_⟩
          rw [h]; exact e.2.2 j hj
        · rw [if_neg e] at h; simp at h
    · rintro ⟨h1, h2⟩
      by_cases e : x + p.length = i + 1
      · right
        have hm : Mt s p p.length (i + 1) := ⟨by omega, Nat.le_refl _, fun j hj => by rw [show i + 1 - p.length + j = x + j from by omega]; exact h2.2 j hj⟩
        rw [if_pos hm, List.mem_singleton]; omega
      · exact .inl ⟨by omega, h2⟩
theorem found_rise (s p : List UInt8) (hp : 0 < p.length) : ∀ i, i ≤ s.length → (foundOf s p i).Pairwise (· < ·)
  | 0, _ => List.Pairwise.nil
  | i + 1, hi => by
    rw [foundOf]
    refine List.pairwise_append.2 ⟨found_rise s p hp i (by omega), ?_, fun a ha b hb => ?_⟩
    · split <;> simp
    · by_cases e : Mt s p p.length (i + 1)
      · rw [if_pos e, List.mem_singleton] at hb
        have := ((mem_found s p hp a i (by omega)).1 ha).1
        omega
      · rw [if_neg e] at hb; simp at hb
/-- All places. -/
def findOf (s p : List UInt8) : List Nat := foundOf s p s.length
theorem mem_find (s p : List UInt8) (hp : 0 < p.length) (x : Nat) : x ∈ findOf s p ↔ Occ s p x := by
  unfold findOf
  rw [mem_found s p hp x _ (Nat.le_refl _)]
  exact ⟨fun h => h.2, fun h => ⟨h.1, h⟩⟩
/-- What an error is told. -/
def seekE (n m : Nat) : Int := if 200 < n ∨ 200 < m then 2 else if m = 0 then 5 else 0
theorem seekE_ok {n m : Nat} : seekE n m = 0 ↔ n ≤ 200 ∧ m ≤ 200 ∧ 0 < m := by
  unfold seekE
  by_cases h : 200 < n ∨ 200 < m
  · rw [if_pos h]; omega
  · rw [if_neg h]
    by_cases h2 : m = 0
    · rw [if_pos h2]; omega
    · rw [if_neg h2]; omega

end Go.Proofs.Ytmephgemokngnaa

/- The walks of seek.check and seek.Find. -/
namespace Go.Proofs.Ytmephgemokngnaa
open Go.RowKit
set_option linter.unusedVariables false

set_option maxHeartbeats 1000000 in
theorem seekCheck_any (s p : ByteArray) (w : World) :
    Calls Try.prog 45 #[.string s, .string p] w fun e w' => e = .returned (.int .i64 (seekE s.size p.size)) ∧ w = w' := by
  by_cases hs : s.size ≤ 200
  · have H1 := Lib.hid (wordCheck_ok s hs)
    by_cases hp : p.size ≤ 200
    · have H2 := Lib.hid (wordCheck_ok p hp)
      by_cases h0 : p.size = 0
      · have q0 : p.toList = [] := by rw [ByteArray.toList_eq]; exact List.eq_nil_of_length_eq_zero h0
        have q0' : (!p.toList.isEmpty) = false := by rw [q0]; rfl
        have q0'' : (p.toList == []) = true := by rw [q0]; rfl
        have q03 : p.toList.isEmpty = true := by rw [q0]; rfl
        have hE : Hid (seekE s.size p.size = 5) := by show seekE _ _ = 5; unfold seekE; rw [if_neg (by omega), if_pos h0]
        have H0 := Lib.hid h0
        clear h0
        go_enter Try.func45, Try.ntmps45
        go_wp2_with fail
        refine (H1.out _).mono ?_
        rintro e w1 ⟨rfl, rfl⟩
        go_wp2_with fail
        refine (H2.out _).mono ?_
        rintro e w1 ⟨rfl, rfl⟩
        go_wp2
        go_ret
        exact ⟨by rw [hE.out]; rfl, rfl⟩
      · have hl : p.toList ≠ [] := fun h => h0 (by rw [ByteArray.toList_eq] at h; show p.data.toList.length = 0; rw [h]; rfl)
        have q0 : p.toList.isEmpty = false := by rw [List.isEmpty_eq_false_iff]; exact hl
        have q0' : (p.toList == []) = false := by rw [beq_eq_false_iff_ne]; exact hl
        have hE : Hid (seekE s.size p.size = 0) := seekE_ok.2 ⟨hs, hp, by omega⟩
        clear hl
        go_enter Try.func45, Try.ntmps45
        go_wp2_with fail
        refine (H1.out _).mono ?_
        rintro e w1 ⟨rfl, rfl⟩
        go_wp2_with fail
        refine (H2.out _).mono ?_
        rintro e w1 ⟨rfl, rfl⟩
        go_wp2
        go_ret
        exact ⟨by rw [hE.out]; rfl, rfl⟩
    · have hE : Hid (seekE s.size p.size = 2) := by show seekE _ _ = 2; unfold seekE; rw [if_pos (by omega)]
      go_enter Try.func45, Try.ntmps45
      go_wp2_with fail
      refine (H1.out _).mono ?_
      rintro e w1 ⟨rfl, rfl⟩
      go_wp2_with fail
      refine (wordCheck_no p (by omega) _).mono ?_
      rintro e w1 ⟨rfl, rfl⟩
      go_wp2
      go_ret
      exact ⟨by rw [hE.out]; rfl, rfl⟩
  · have hE : Hid (seekE s.size p.size = 2) := by show seekE _ _ = 2; unfold seekE; rw [if_pos (by omega)]
    go_enter Try.func45, Try.ntmps45
    go_wp2_with fail
    refine (wordCheck_no s (by omega) _).mono ?_
    rintro e w1 ⟨rfl, rfl⟩
    go_wp2
    go_ret
    exact ⟨by rw [hE.out]; rfl, rfl⟩

set_option maxRecDepth 100000 in
set_option maxHeartbeats 4000000 in
theorem find_ok (s p : ByteArray) (hE : seekE s.size p.size = 0) (w : World) :
    Calls Try.prog 24 #[.string s, .string p] w (ToldInts (nI (findOf s.data.toList p.data.toList)) w) := by
  obtain ⟨hs, hp, hp0⟩ := seekE_ok.1 hE
  have hc1 := seekCheck_any s p
  rw [hE] at hc1
  have C1 := Lib.hid hc1
  have H1 := Lib.hid (borders_ok p hp)
  have hbl := bordersOf_length p.data.toList
  have hba := bordersOf_at p.data.toList
  generalize bordersOf p.data.toList = bo at *
  have Hbl := Lib.hid hbl
  have Hba := Lib.hid hba
  clear hc1 hE hbl hba
  go_enter Try.func24, Try.ntmps24
  go_wp2_with fail
  refine (C1.out _).mono ?_
  rintro e w1 ⟨rfl, rfl⟩
  go_wp2_with fail
  refine (H1.out _).mono ?_
  rintro e w2 ⟨A, rfl, hr2, hb2⟩
  obtain ⟨b, o, rfl, hbB, hc⟩ := hr2.2 (by omega)
  have hcell : ∀ j, j < p.size → w2.cell? ⟨b, o + j, none⟩ = some (.int .i64 ((pi p.data.toList (j + 1) : Nat) : Int)) := fun j hj => by
    have c0 := hc (j * 1 + 0) (by rw [flat_length cInt 1 cInt_len, Hbl.out]; show j * 1 + 0 < p.size * 1; omega)
    rw [flat_getD cInt 1 cInt_len 0 bo j _ (by rw [Hbl.out]; exact hj) (by omega), Hba.out j hj] at c0
    simpa [cInt] using c0
  have Hcell := Lib.hid hcell
  clear hcell hc
  go_wp2
  go_loopw [9, 10, 11, 25] (fun ov kv _ iv wr => ∃ (i k m : Nat) (A' : Option Addr) (c' : Nat), i ≤ s.size ∧ m ≤ i ∧ k ≤ p.size ∧ iv = .int .i64 i ∧ kv = .int .i64 k ∧ ov = .slice A' m c' ∧ Hid ((nI (foundOf s.data.toList p.data.toList i)).length = m) ∧ Hid (LMt s.data.toList p.data.toList k i) ∧
      wr.ownsRow w2.heap.size 3 1 (.slice A' m c') m ((nI (foundOf s.data.toList p.data.toList i)).flatMap cInt) ∧ Below w2.heap.size w2 wr) (fun _ _ _ iv _ => s.size - (intOf iv).toNat)
  case atStart => exact ⟨0, 0, 0, none, 0, Nat.zero_le _, Nat.le_refl _, Nat.zero_le _, rfl, rfl, rfl, rfl, lmt_start _ _, World.ownsRow_nil _ _ _ _, Below.refl _ _⟩
  case round =>
    obtain ⟨i, k0, m, A', c', hi, hmi, hk0, rfl, rfl, rfl, Hm, Hl, hown, hbr⟩ := hrel
    by_cases hlt : i < s.size
    · have hlt' : (i : Int) < s.size := by omega
      have Hc0 := Lib.hid (cmt_start Hl.out)
      go_wp2
      go_loopw [10] (fun kv wq => ∃ k : Nat, k ≤ p.size ∧ kv = .int .i64 k ∧ Hid (CMt s.data.toList p.data.toList k i) ∧ wq.ownsRow w2.heap.size 3 1 (.slice A' m c') m ((nI (foundOf s.data.toList p.data.toList i)).flatMap cInt) ∧ Below w2.heap.size w2 wq) (fun kv _ => (intOf kv).toNat)
      case atStart => exact ⟨k0, hk0, rfl, Hc0, hown, hbr⟩
      case round =>
        clear hown hbr
        obtain ⟨k, hk, rfl, Hc, hown, hbr⟩ := hrel
        have Hgi := Lib.hid (getD_bytes s i hlt)
        by_cases hkm : k < p.size
        · have hkm' : (k : Int) < p.size := by omega
          have Hgk := Lib.hid (getD_bytes p k hkm)
          have qk : ((k : Int) == (p.size : Int)) = false := by rw [beq_eq_false_iff_ne]; omega
          by_cases heq : p[k] = s[i]
          · have q1 : ((p[k].toNat : Int) == (s[i].toNat : Int)) = true := by rw [heq]; simp
            have q1' : ((p[k].toNat : Int) != (s[i].toNat : Int)) = false := by rw [heq]; simp
            by_cases hend : k + 1 = p.size
            · have qe : ((k : Int) + 1 == (p.size : Int)) = true := by rw [beq_iff_eq]; omega
              by_cases hkz : 0 < k
              · have q0 : decide ((0 : Int) < (k : Int)) = true := decide_eq_true (by omega)
                have hl2 := cmt_hit Hc.out hkm (by rw [Hgk.out, Hgi.out]; exact heq)
                have hfo : foundOf s.data.toList p.data.toList (i + 1) = foundOf s.data.toList p.data.toList i ++ if Mt s.data.toList p.data.toList p.data.toList.length (i + 1) then [i + 1 - p.data.toList.length] else [] := rfl
                have hmt := lmt_found hl2
                have hf2 : foundOf s.data.toList p.data.toList (i + 1) = foundOf s.data.toList p.data.toList i ++ [i + 1 - p.size] := by rw [hfo, if_pos (hmt.2 (by show k + 1 = p.size; omega))]; rfl
                have hval : (i : Int) + 1 - (p.size : Int) = ((i + 1 - p.size : Nat) : Int) := by have := hl2.1.1; omega
                have Hval := Lib.hid hval
                have Hl2 := Lib.hid hl2
                have Hf2 := Lib.hid hf2
                clear heq hl2 hfo hmt hf2 hval
                go_wp2
                go_quiet (fail)
                go_wp2
                go_quiet (fail)
                go_wp2_with (first | (at_builtin; go_must (refine wpList_append_new _ 41 (.tmp 63) (.tmp 69) rfl rfl w2.heap.size 3 infoIntW Try.underlying41 rfl (by decide) _ _ _ _ rfl (ownsRow_drewN hown _) #[.int .i64 ((i : Int) + 1 - (p.size : Int))] 1 rfl rfl (by simp [Value.oneCell']) (by unfold maxLen; omega) (by omega) hbr.size ?_); intro A3 c3 w3 hown3 hb3 hg3))
                go_roundw
                case rel =>
                  refine ⟨i + 1, k + 1, m + 1, A3, c3, by omega, by omega, by omega, by go_num, by go_num, rfl, Lib.hid (by rw [nI_length, Hf2.out, List.length_append, ← nI_length, Hm.out]; rfl), Hl2, ?_, (below_drewN hbr _).trans hb3⟩
                  rw [Hf2.out, nI_snoc, flat_snoc, ← Hval.out]; exact hown3
                case measure => simp [intOf]; omega
              · have q0 : decide ((0 : Int) < (k : Int)) = false := decide_eq_false (by omega)
                have hl2 := cmt_hit Hc.out hkm (by rw [Hgk.out, Hgi.out]; exact heq)
                have hfo : foundOf s.data.toList p.data.toList (i + 1) = foundOf s.data.toList p.data.toList i ++ if Mt s.data.toList p.data.toList p.data.toList.length (i + 1) then [i + 1 - p.data.toList.length] else [] := rfl
                have hmt := lmt_found hl2
                have hf2 : foundOf s.data.toList p.data.toList (i + 1) = foundOf s.data.toList p.data.toList i ++ [i + 1 - p.size] := by rw [hfo, if_pos (hmt.2 (by show k + 1 = p.size; omega))]; rfl
                have hval : (i : Int) + 1 - (p.size : Int) = ((i + 1 - p.size : Nat) : Int) := by have := hl2.1.1; omega
                have Hval := Lib.hid hval
                have Hl2 := Lib.hid hl2
                have Hf2 := Lib.hid hf2
                clear heq hl2 hfo hmt hf2 hval
                go_wp2
                go_quiet (fail)
                go_wp2
                go_quiet (fail)
                go_wp2_with (first | (at_builtin; go_must (refine wpList_append_new _ 41 (.tmp 63) (.tmp 69) rfl rfl w2.heap.size 3 infoIntW Try.underlying41 rfl (by decide) _ _ _ _ rfl (ownsRow_drewN hown _) #[.int .i64 ((i : Int) + 1 - (p.size : Int))] 1 rfl rfl (by simp [Value.oneCell']) (by unfold maxLen; omega) (by omega) hbr.size ?_); intro A3 c3 w3 hown3 hb3 hg3))
                go_roundw
                case rel =>
                  refine ⟨i + 1, k + 1, m + 1, A3, c3, by omega, by omega, by omega, by go_num, by go_num, rfl, Lib.hid (by rw [nI_length, Hf2.out, List.length_append, ← nI_length, Hm.out]; rfl), Hl2, ?_, (below_drewN hbr _).trans hb3⟩
                  rw [Hf2.out, nI_snoc, flat_snoc, ← Hval.out]; exact hown3
                case measure => simp [intOf]; omega
            · have qe : ((k : Int) + 1 == (p.size : Int)) = false := by rw [beq_eq_false_iff_ne]; omega
              by_cases hkz : 0 < k
              · have q0 : decide ((0 : Int) < (k : Int)) = true := decide_eq_true (by omega)
                have hl2 := cmt_hit Hc.out hkm (by rw [Hgk.out, Hgi.out]; exact heq)
                have hfo : foundOf s.data.toList p.data.toList (i + 1) = foundOf s.data.toList p.data.toList i ++ if Mt s.data.toList p.data.toList p.data.toList.length (i + 1) then [i + 1 - p.data.toList.length] else [] := rfl
                have hmt := lmt_found hl2
                have hf2 : foundOf s.data.toList p.data.toList (i + 1) = foundOf s.data.toList p.data.toList i := by rw [hfo, if_neg (mt hmt.1 (by show ¬ k + 1 = p.size; omega)), List.append_nil]
                have Hl2 := Lib.hid hl2
                have Hf2 := Lib.hid hf2
                clear heq hl2 hfo hmt hf2
                go_wp2
                go_quiet (fail)
                go_wp2
                go_quiet (fail)
                go_wp2
                go_roundw
                case rel =>
                  refine ⟨i + 1, k + 1, m, A', c', by omega, by omega, by omega, by go_num, by go_num, rfl, Lib.hid (by rw [Hf2.out]; exact Hm.out), Hl2, ?_, below_drewN hbr _⟩
                  rw [Hf2.out]; exact ownsRow_drewN hown _
                case measure => simp [intOf]; omega
              · have q0 : decide ((0 : Int) < (k : Int)) = false := decide_eq_false (by omega)
                have hl2 := cmt_hit Hc.out hkm (by rw [Hgk.out, Hgi.out]; exact heq)
                have hfo : foundOf s.data.toList p.data.toList (i + 1) = foundOf s.data.toList p.data.toList i ++ if Mt s.data.toList p.data.toList p.data.toList.length (i + 1) then [i + 1 - p.data.toList.length] else [] := rfl
                have hmt := lmt_found hl2
                have hf2 : foundOf s.data.toList p.data.toList (i + 1) = foundOf s.data.toList p.data.toList i := by rw [hfo, if_neg (mt hmt.1 (by show ¬ k + 1 = p.size; omega)), List.append_nil]
                have Hl2 := Lib.hid hl2
                have Hf2 := Lib.hid hf2
                clear heq hl2 hfo hmt hf2
                go_wp2
                go_quiet (fail)
                go_wp2
                go_quiet (fail)
                go_wp2
                go_roundw
                case rel =>
                  refine ⟨i + 1, k + 1, m, A', c', by omega, by omega, by omega, by go_num, by go_num, rfl, Lib.hid (by rw [Hf2.out]; exact Hm.out), Hl2, ?_, below_drewN hbr _⟩
                  rw [Hf2.out]; exact ownsRow_drewN hown _
                case measure => simp [intOf]; omega
          · have q1 : ((p[k].toNat : Int) == (s[i].toNat : Int)) = false := by rw [beq_eq_false_iff_ne]; intro h; exact heq (UInt8.toNat_inj.1 (by omega))
            have q1' : ((p[k].toNat : Int) != (s[i].toNat : Int)) = true := by rw [bne_iff_ne]; intro h; exact heq (UInt8.toNat_inj.1 (by omega))
            by_cases hkz : 0 < k
            · have q0 : decide ((0 : Int) < (k : Int)) = true := decide_eq_true (by omega)
              obtain ⟨k', hk'⟩ : ∃ k', k - 1 = k' := ⟨_, rfl⟩
              have hks : k' < p.size := by omega
              have ck := Hcell.out k' hks
              rw [show k' + 1 = k from by omega] at ck
              have ckw := (hbr.cell (p := ⟨b, o + k', none⟩) hbB).trans ck
              have ek : (k : Int) - 1 = (k' : Int) := by omega
              have hpk := pi_lt p.data.toList (p := k) hkz
              have Hn := Lib.hid (cmt_next Hc.out hkz (.inr (by rw [Hgk.out, Hgi.out]; exact heq)))
              clear hk' ck heq
              generalize pi p.data.toList k = K1 at *
              go_wp2
              go_quiet (fail)
              go_wp2
              clear ek
              go_roundw
              case rel => exact ⟨K1, by omega, rfl, Hn, ownsRow_drewN hown _, below_drewN hbr _⟩
              case measure => simp [intOf]; omega
            · have q0 : decide ((0 : Int) < (k : Int)) = false := decide_eq_false (by omega)
              have qe : ((k : Int) == (p.size : Int)) = false := qk
              have hl2 : LMt s.data.toList p.data.toList k (i + 1) := by
                obtain rfl : k = 0 := by omega
                exact cmt_miss Hc.out (by rw [Hgk.out, Hgi.out]; exact heq)
              have hfo : foundOf s.data.toList p.data.toList (i + 1) = foundOf s.data.toList p.data.toList i ++ if Mt s.data.toList p.data.toList p.data.toList.length (i + 1) then [i + 1 - p.data.toList.length] else [] := rfl
              have hmt := lmt_found hl2
              have hf2 : foundOf s.data.toList p.data.toList (i + 1) = foundOf s.data.toList p.data.toList i := by rw [hfo, if_neg (mt hmt.1 (by show ¬ k = p.size; omega)), List.append_nil]
              have Hl2 := Lib.hid hl2
              have Hf2 := Lib.hid hf2
              clear heq hl2 hfo hmt hf2
              go_wp2
              go_quiet (fail)
              go_wp2
              go_quiet (fail)
              go_wp2
              go_roundw
              case rel =>
                refine ⟨i + 1, k, m, A', c', by omega, by omega, by omega, by go_num, by go_num, rfl, Lib.hid (by rw [Hf2.out]; exact Hm.out), Hl2, ?_, below_drewN hbr _⟩
                rw [Hf2.out]; exact ownsRow_drewN hown _
              case measure => simp [intOf]; omega
        · obtain rfl : k = p.size := by omega
          have q0 : decide ((0 : Int) < (p.size : Int)) = true := decide_eq_true (by omega)
          have qk : ((p.size : Int) == (p.size : Int)) = true := by simp
          obtain ⟨k', hk'⟩ : ∃ k', p.size - 1 = k' := ⟨_, rfl⟩
          have hks : k' < p.size := by omega
          have ck := Hcell.out k' hks
          rw [show k' + 1 = p.size from by omega] at ck
          have ckw := (hbr.cell (p := ⟨b, o + k', none⟩) hbB).trans ck
          have ek : (p.size : Int) - 1 = (k' : Int) := by omega
          have hpk := pi_lt p.data.toList (p := p.size) hp0
          have Hn := Lib.hid (cmt_next Hc.out hp0 (.inl rfl))
          clear hk' ck
          generalize pi p.data.toList p.size = K1 at *
          go_wp2
          go_quiet (fail)
          go_wp2
          clear ek
          go_roundw
          case rel => exact ⟨K1, by omega, rfl, Hn, ownsRow_drewN hown _, below_drewN hbr _⟩
          case measure => simp [intOf]; omega
    · obtain rfl : i = s.size := by omega
      go_wp2
      go_ret2
      have hn : (nI (findOf s.data.toList p.data.toList)).length = m := Hm.out
      refine ⟨A', c', ?_, ?_, chain hbr hb2, ?_⟩
      · rw [hn]; rfl
      · rw [hn]; exact Reads.of_own hown
      · rw [hn]; exact ownCapW hown

set_option maxHeartbeats 400000 in
theorem find_no (s p : ByteArray) (hE : seekE s.size p.size ≠ 0) (w : World) :
    Calls Try.prog 24 #[.string s, .string p] w fun e w' => e = .returned (.tuple #[.slice none 0 0, .int .i64 (seekE s.size p.size)]) ∧ w = w' := by
  have hc1 := seekCheck_any s p
  generalize seekE s.size p.size = E at *
  have C1 := Lib.hid hc1
  have q1 : (E != 0) = true := by simpa using hE
  clear hc1
  go_enter Try.func24, Try.ntmps24
  go_wp2_with fail
  refine (C1.out _).mono ?_
  rintro e w1 ⟨rfl, rfl⟩
  go_wp2
  go_ret2
  exact ⟨rfl, rfl⟩

end Go.Proofs.Ytmephgemokngnaa

/- TopUnlike's walk: a byte more brings as many new texts as its longest end that stood there leaves, and at most one palindrome. -/
namespace Go.Proofs.Ytmephgemokngnaa
open Go.RowKit
set_option linter.unusedVariables false

theorem occ_sub {s p : List UInt8} (hp : 0 < p.length) : (∃ x, Occ s p x) ↔ Sub s p := by
  constructor
  · rintro ⟨x, h⟩
    have h1 := h.1
    exact ⟨fun e => by rw [e] at hp; simp at hp, x, by omega, (occ_prefix s p x (by omega)).1 h⟩
  · rintro ⟨_, x, hx, hpre⟩
    exact ⟨x, (occ_prefix s p x (by omega)).2 hpre⟩
/-- Does the text stand there? -/
noncomputable def thereB (s t : List UInt8) : Bool := @decide (Sub s t) (Classical.propDecidable _)
theorem thereB_iff {s t : List UInt8} : thereB s t = true ↔ Sub s t := @decide_eq_true_iff _ (Classical.propDecidable _)
theorem thereB_no {s t : List UInt8} : thereB s t = false ↔ ¬ Sub s t := @decide_eq_false_iff_not _ (Classical.propDecidable _)

set_option maxHeartbeats 1000000 in
theorem there_any (s t : ByteArray) (hs : s.size ≤ 200) (ht : t.size ≤ 200) (g : Nat) (w : World) (h : w.cell? ⟨g, 0, none⟩ = some (.string s)) :
    Calls Try.prog 23 #[.string t, .pointer (some ⟨g, 0, none⟩)] w fun e w' => e = .returned (.bool (thereB s.data.toList t.data.toList)) ∧ Below w.heap.size w w' := by
  by_cases h0 : t.size = 0
  · have hE : seekE s.size t.size = 5 := by unfold seekE; rw [if_neg (by omega), if_pos h0]
    have hF := find_no s t (by rw [hE]; decide) w
    rw [hE] at hF
    have HF := Lib.hid hF
    have hb : thereB s.data.toList t.data.toList = false := thereB_no.2 fun hsub => by
      have := List.length_pos_iff.2 (sub_infix.1 hsub).1
      have e : t.data.toList.length = t.size := rfl
      omega
    rw [hb]
    clear hE hF hb h0
    go_enter Try.func23, Try.ntmps23
    go_wp2_with fail
    refine HF.out.mono ?_
    rintro e w1 ⟨rfl, rfl⟩
    go_wp2
    go_ret
    exact ⟨rfl, Below.refl _ _⟩
  · have hE : seekE s.size t.size = 0 := seekE_ok.2 ⟨hs, ht, by omega⟩
    have HF := Lib.hid (find_ok s t hE w)
    have hm := mem_find s.data.toList t.data.toList (show 0 < t.data.toList.length by show 0 < t.size; omega)
    have ho := occ_sub (s := s.data.toList) (p := t.data.toList) (show 0 < t.data.toList.length by show 0 < t.size; omega)
    have hlen : (nI (findOf s.data.toList t.data.toList)).length = (findOf s.data.toList t.data.toList).length := by unfold nI; rw [List.length_map]
    have hb : thereB s.data.toList t.data.toList = decide (0 < (nI (findOf s.data.toList t.data.toList)).length) := by
      rw [hlen, Bool.eq_iff_iff, thereB_iff, decide_eq_true_iff, ← ho]
      constructor
      · rintro ⟨x, hx⟩
        exact List.length_pos_of_mem ((hm x).2 hx)
      · intro hp
        exact ⟨_, (hm _).1 (List.getElem_mem hp)⟩
    rw [hb]
    clear hE hb hm ho hlen h0
    go_enter Try.func23, Try.ntmps23
    go_wp2_with fail
    refine HF.out.mono ?_
    rintro e w1 ⟨A, c, rfl, _, hb1, _⟩
    generalize hm : (nI (findOf s.data.toList t.data.toList)).length = m at *
    have Hm := Lib.hid hm
    clear hm
    go_wp2
    go_ret
    exact ⟨by simp [Hm.out], hb1⟩

set_option maxRecDepth 100000 in
set_option maxHeartbeats 8000000 in
theorem topUnlike_core (s0 : ByteArray) (b : UInt8) (hs0 : s0.size ≤ 140737488351232) (w : World) :
    Calls Try.prog 5 #[.string s0, .int .u8 (b.toNat : Int)] w fun e w' => e = .returned (.bool true) ∧ Below w.heap.size w w' := by
  have HC := Lib.hid (cutT_any s0 80 (by decide) hs0)
  have hsz : (s0.extract 0 80).size ≤ 80 := by simp; omega
  have hbx0 := Blk.new w 9 #[.string s0]
  have c0 : (w.alloc (Obj.cells #[.string s0] 9)).cell? ⟨w.heap.size, 0, none⟩ = some (.string s0) := hbx0.cell 0
  have f0 : (w.alloc (Obj.cells #[.string s0] 9)).frozen? ⟨w.heap.size, 0, none⟩ = false := hbx0.frozen 0
  have hb0 : RowKit.Below w.heap.size w (w.alloc (Obj.cells #[.string s0] 9)) := (Below.refl _ _).alloc (Nat.le_refl _) _
  have hz0 : (w.alloc (Obj.cells #[.string s0] 9)).heap.size = w.heap.size + 1 := by simp
  generalize s0.extract 0 80 = s at *
  have hbx1 := hbx0.set_ 0 (.string s)
  rw [show (#[Value.string s0].setIfInBounds 0 (.string s)) = #[Value.string s] from rfl] at hbx1
  have hb1 := hb0.setCell (p := ⟨w.heap.size, 0, none⟩) (Nat.le_refl _) (.string s)
  have hz1 : ((w.alloc (Obj.cells #[.string s0] 9)).setCell ⟨w.heap.size, 0, none⟩ (.string s)).heap.size = w.heap.size + 1 := by rw [size_setCell]; exact hz0
  have H1 := Lib.hid (suffixUnlike_ok s (by omega))
  have H2 := Lib.hid (suffixUnlike_ok (s ++ ⟨#[b]⟩) (by rw [ByteArray.size_append]; show s.size + 1 ≤ 200; omega))
  have H3 := Lib.hid (unlike_ok s (by omega))
  have H4 := Lib.hid (unlike_ok (s ++ ⟨#[b]⟩) (by rw [ByteArray.size_append]; show s.size + 1 ≤ 200; omega))
  have H5 := Lib.hid (arms_ok (s ++ ⟨#[b]⟩) (by rw [ByteArray.size_append]; show s.size + 1 ≤ 200; omega))
  have hca : ∀ w, (Op.stringOp .add s ⟨#[b]⟩).run Try.prog w = .ok (.string (s ++ ⟨#[b]⟩)) w := fun w => run_string_add_sum w _ _ (by show s.size + 1 ≤ _; omega)
  have hcv := fun w2 : World => run_string_of (P := Try.prog) (w2.alloc (Obj.cells #[.int .u8 (b.toNat : Int)] 5)) 22 9 5 ⟨w2.heap.size, 0, none⟩ 1 1 [b] rfl Try.underlying22 Try.underlying5 Try.underlying9 (fun j hj => by
    obtain rfl : j = 0 := by simpa using hj
    rw [add_zero, World.cell?_alloc_mark]; rfl)
  have G := Lib.hid (fun w => goodT_fresh [0, 0, 0, 0, 0] 5 5 rfl (by decide) w 24)
  have hsn : (s ++ ⟨#[b]⟩ : ByteArray).data.toList = s.data.toList ++ [b] := by simp [ByteArray.data_append]
  have hss : (s ++ ⟨#[b]⟩ : ByteArray).size = s.size + 1 := by rw [ByteArray.size_append]; rfl
  have hm1 := unlN_many s
  have hm2 := unlN_many (s ++ ⟨#[b]⟩)
  have hub : unlN (s ++ ⟨#[b]⟩) ≤ 20100 := by
    have := (sOrd_is (s ++ ⟨#[b]⟩ : ByteArray).data.toList).unl_eq.1
    have h1 : (s ++ ⟨#[b]⟩ : ByteArray).size * ((s ++ ⟨#[b]⟩ : ByteArray).size + 1) ≤ 100 * 101 := Nat.mul_le_mul (by omega) (by omega)
    rw [show (s ++ ⟨#[b]⟩ : ByteArray).data.toList.length = (s ++ ⟨#[b]⟩ : ByteArray).size from rfl] at this
    unfold unlN
    omega
  generalize hSB : s ++ ⟨#[b]⟩ = W at *
  generalize unlN s = n at *
  generalize unlN W = m at *
  have HM1 := Lib.hid hm1
  have HM2 := Lib.hid hm2
  have Hsn := Lib.hid hsn
  have Hss := Lib.hid hss
  have hW : W.size ≤ 81 := by omega
  clear hm1 hm2 hsn hss hSB hbx0 hb0
  go_enter Try.func5, Try.ntmps5
  go_wp2_with fail
  refine (HC.out _).mono ?_
  rintro e wa ⟨rfl, rfl⟩
  generalize hw0 : w.alloc (Obj.cells #[.string s0] 9) = w0 at *
  clear hw0 HC
  generalize hw1 : w0.setCell ⟨w.heap.size, 0, none⟩ (.string s) = w1 at *
  have c1 : w1.cell? ⟨w.heap.size, 0, none⟩ = some (.string s) := hbx1.cell 0
  have hcv1 := hcv w1
  rw [hz1] at hcv1
  have hba := hb1.alloc hb1.size (Obj.cells #[.int .u8 (b.toNat : Int)] 5)
  have hbxa := hbx1.alloc (Obj.cells #[.int .u8 (b.toNat : Int)] 5)
  have ca : (w1.alloc (Obj.cells #[.int .u8 (b.toNat : Int)] 5)).cell? ⟨w.heap.size, 0, none⟩ = some (.string s) := hbxa.cell 0
  go_wp2_with fail
  refine (H1.out _).mono ?_
  rintro e w2 ⟨rfl, hb2⟩
  have hbx2 := hbxa.after hb2
  have hb2 := chain hb2 hba
  clear hcv1 hcv hca c1 ca hba hbxa hbx1 hb1
  go_wp2_with fail
  refine (H2.out _).mono ?_
  rintro e w3 ⟨rfl, hb3⟩
  have hbx3 := hbx2.after hb3
  have hb3 := chain hb3 hb2
  have c3 : w3.cell? ⟨w.heap.size, 0, none⟩ = some (.string s) := hbx3.cell 0
  go_wp2_with fail
  refine (H3.out _).mono ?_
  rintro e w4 ⟨x, hx, rfl, hb4⟩
  have hbx4 := hbx3.after hb4
  have hb4 := chain hb4 hb3
  have HX := Lib.hid hx
  clear hx c3 hbx3 hbx2 hb2 hb3
  go_wp2_with fail
  refine (H4.out _).mono ?_
  rintro e w5 ⟨y, hy, rfl, hb5⟩
  have hbx5 := hbx4.after hb5
  have hb5 := chain hb5 hb4
  have HY := Lib.hid hy
  clear hy
  go_wp2_with fail
  refine (H5.out _).mono ?_
  rintro e w6 ⟨g, l, rfl, hl, hat, hv, hb6⟩
  have hbx6 := hbx5.after hb6
  have hb6 := chain hb6 hb5
  obtain ⟨f, hf⟩ : ∃ f : Nat → Nat, ∀ j, f j = (l.getD j 0).toNat := ⟨fun j => (l.getD j 0).toNat, fun _ => rfl⟩
  have hfa : ∀ k, k < 2 * W.size + 1 → IsArm W.data.toList k (f k) ∧ l.getD k 0 = (f k : Int) := fun k hk => by
    obtain ⟨z, h1, h2⟩ := hv k hk
    have e : f k = z := by rw [hf, h1]; simp
    rw [e]
    exact ⟨h2, h1⟩
  have Hfa := Lib.hid hfa
  have Hl := Lib.hid hl
  clear hv hf hfa hl H1 H2 H3 H4 H5 hbx4 hbx5 hb4 hb5
  go_wp2_with fail
  refine (works_any _).mono ?_
  rintro e w7 ⟨rfl, hb7⟩
  have hbx7 := hbx6.after hb7
  have hat7 := hat.below hb7 hat.1
  have hb7 := chain hb7 hb6
  go_wp2_with fail
  refine (G.out _).mono ?_
  rintro e w8 ⟨rfl, hb8⟩
  have hbx8 := hbx7.after hb8
  have hat8 := hat7.below hb8 hat7.1
  have hb8 := chain hb8 hb7
  obtain ⟨N, hN⟩ : ∃ N, N = 2 * W.size + 1 := ⟨_, rfl⟩
  have q1 : ((N : Int) != 2 * (W.size : Int) + 1) = false := by rw [bne_eq_false_iff_eq]; omega
  rw [← hN]
  have HN := Lib.hid hN
  have hNb : N ≤ 163 := by omega
  have HT := Lib.hid (fun (t : ByteArray) (ht : t.size ≤ 200) w' (hb : Blk w' w.heap.size 9 #[.string s]) => there_any s t (by omega) ht w.heap.size w' (hb.cell 0))
  have hbs : w.heap.size < w8.heap.size := hbx8.lt
  have eg : ∀ args w, (callFunc 23 args).run Try.prog w = .ok (.enter 23 args) w := enters_of Try.func23 (by kernel_rfl) rfl
  clear hN hbx6 hbx7 hat hat7 hb6 hb7 G
  go_wp2
  go_loopw [17] (fun lv wr => ∃ L : Nat, L ≤ W.size ∧ lv = .int .i64 L ∧ Hid (∀ j, L < j → j ≤ W.size → ¬ Sub s.data.toList (endW W.data.toList j)) ∧ Below w8.heap.size w8 wr) (fun lv _ => (intOf lv).toNat)
  case atStart => exact ⟨W.size, Nat.le_refl _, rfl, Lib.hid fun j h1 h2 => by omega, Below.refl _ _⟩
  case round =>
    obtain ⟨L, hL, rfl, HL, hbr⟩ := hrel
    obtain ⟨a, ha⟩ : ∃ a, W.size = a + L := ⟨W.size - L, by omega⟩
    have hext : (W.extract a W.size).data.toList = endW W.data.toList L := by
      rw [ext_suf]
      unfold endW
      rw [show W.data.toList.length = W.size from rfl, ha, Nat.add_sub_cancel]
    have hexs : (W.extract a W.size).size ≤ 200 := by simp; omega
    have hth := HT.out (W.extract a W.size) hexs wr (hbx8.below hbr hbs)
    rw [hext] at hth
    have Hth := Lib.hid hth
    have wa : IntKind.i64.wrap ((W.size : Int) - (L : Int)) = (a : Int) := by rw [IntKind.wrap_i64]; omega
    have a1 : a ≤ W.size := by omega
    have a1' : (a : Int) ≤ W.size := by omega
    clear hth hext hexs ha
    by_cases hL0 : 0 < L
    case' pos =>
      have q2 : decide ((0 : Int) < (L : Int)) = true := decide_eq_true (by omega)
      have q2' : decide (0 < L) = true := decide_eq_true hL0
      by_cases hin : Sub s.data.toList (endW W.data.toList L)
      case' neg =>
        rw [thereB_no.2 hin] at Hth
        go_wp2_with fail
        refine Hth.out.mono ?_
        rintro e wq ⟨rfl, hbq⟩
        have hbq := chain hbq hbr
        clear wa
        go_wp2
        go_roundw
        case rel => exact ⟨L - 1, by omega, by go_num, Lib.hid fun j h1 h2 => by
          rcases Nat.lt_or_ge L j with h3 | h3
          · exact HL.out j h3 h2
          · obtain rfl : j = L := by omega
            exact hin, hbq⟩
        case measure => simp only [intOf]; omega
      case' pos =>
        rw [thereB_iff.2 hin] at Hth
        have hlong : LongE s.data.toList W.data.toList L := ⟨hL, .inr hin, HL.out⟩
        have Hlong := Lib.hid hlong
        go_wp2_with fail
        refine Hth.out.mono ?_
        rintro e wq ⟨rfl, hbq⟩
        have hbq := chain hbq hbr
        clear hlong hin
    case' neg =>
      have q2 : decide ((0 : Int) < (L : Int)) = false := decide_eq_false (by omega)
      have q2' : decide (0 < L) = false := decide_eq_false hL0
      have hlong : LongE s.data.toList W.data.toList L := ⟨hL, .inl (by omega), HL.out⟩
      have Hlong := Lib.hid hlong
      obtain ⟨wq, hwq⟩ : ∃ wq, wq = wr := ⟨_, rfl⟩
      subst hwq
      have hbq := hbr
      clear hlong
    all_goals
      have hatq := hat8.below hbq hat8.1
      clear HL wa a1 a1'
      go_wp2
      go_loopw [18, 19, 20, 95] (fun rv _ _ iv wz => ∃ k r : Nat, k ≤ N ∧ iv = .int .i64 k ∧ rv = .int .i64 r ∧ r ≤ 200 ∧ Hid (LastA f (2 * W.size) k r) ∧ wz = wq) (fun _ _ _ iv _ => N - (intOf iv).toNat)
      case atStart => exact ⟨0, 0, Nat.zero_le _, rfl, rfl, Nat.zero_le _, Lib.hid ⟨fun j hj => by omega, .inl rfl⟩, rfl⟩
      case round =>
        obtain ⟨k, r, hk, rfl, rfl, hr, HA, rfl⟩ := hrel
        by_cases hlt : k < N
        · have cc := mirrorArms_cell hatq Hl.out (show k < 2 * W.size + 1 by rw [← HN.out]; exact hlt)
          obtain ⟨hia, hle⟩ := Hfa.out k (by rw [← HN.out]; exact hlt)
          rw [hle] at cc
          have hbd := isArm_bd hia
          rw [show W.data.toList.length = W.size from rfl] at hbd
          have hx4 : f k ≤ 81 := by omega
          have hnew1 : k + f k = 2 * W.size → LastA f (2 * W.size) (k + 1) (max r (f k)) := fun he => by
            refine ⟨fun j hj hje => ?_, ?_⟩
            · rcases Nat.lt_or_ge j k with h1 | h1
              · have := HA.out.most j h1 hje; omega
              · obtain rfl : j = k := by omega
                exact Nat.le_max_right _ _
            · rcases Nat.le_total r (f k) with h1 | h1
              · exact .inr ⟨k, by omega, he, by rw [Nat.max_eq_right h1]⟩
              · rw [Nat.max_eq_left h1]
                rcases HA.out.at_ with h2 | ⟨j, j1, j2, j3⟩
                · exact .inl h2
                · exact .inr ⟨j, by omega, j2, j3⟩
          have hnew2 : k + f k ≠ 2 * W.size → LastA f (2 * W.size) (k + 1) r := fun he => by
            refine ⟨fun j hj hje => ?_, ?_⟩
            · rcases Nat.lt_or_ge j k with h1 | h1
              · exact HA.out.most j h1 hje
              · obtain rfl : j = k := by omega
                exact absurd hje he
            · rcases HA.out.at_ with h2 | ⟨j, j1, j2, j3⟩
              · exact .inl h2
              · exact .inr ⟨j, by omega, j2, j3⟩
          have Hn1 := Lib.hid hnew1
          have Hn2 := Lib.hid hnew2
          clear hia hle hbd hnew1 hnew2
          generalize f k = z at *
          by_cases he : k + z = 2 * W.size
          · have q3 : (((k : Int) + (z : Int)) == 2 * (W.size : Int)) = true := by rw [beq_iff_eq]; omega
            have hmax : ∀ (ats : Array TypeId) (t : TypeId) (w : World), (Builtin.max_ ats t #[.int .i64 (r : Int), .int .i64 (z : Int)]).run Try.prog w = .ok (.int .i64 ((max r z : Nat) : Int)) w := fun ats t w => by
              rw [run_max_int2]; congr 2; omega
            have hmr : max r z ≤ 200 := by omega
            have Hn := Lib.hid (Hn1.out he)
            clear Hn1 Hn2 he
            generalize max r z = r2 at *
            go_wp2
            go_roundw
            case rel => exact ⟨k + 1, r2, by omega, by go_num, rfl, hmr, Lib.hid Hn.out, trivial⟩
            case measure => simp [intOf]; omega
          · have q3 : (((k : Int) + (z : Int)) == 2 * (W.size : Int)) = false := by rw [beq_eq_false_iff_ne]; omega
            have Hn := Lib.hid (Hn2.out he)
            clear Hn1 Hn2 he
            go_wp2
            go_roundw
            case rel => exact ⟨k + 1, r, by omega, by go_num, rfl, hr, Lib.hid Hn.out, trivial⟩
            case measure => simp [intOf]; omega
        · obtain rfl : k = N := by omega
          clear hlt
          have hA := HA.out
          rw [HN.out] at hA
          have hlast : LastP W.data.toList r := LastA.last (fun j hj => (Hfa.out j hj).1) hA (by show 0 < W.size; have := Hss.out; omega)
          have hrW : r ≤ W.size := hlast.le
          have hr1 : 1 ≤ r := hlast.pos
          obtain ⟨a, ha⟩ : ∃ a, W.size = a + r := ⟨W.size - r, by omega⟩
          have hext : (W.extract a W.size).data.toList = endW W.data.toList r := by
            rw [ext_suf]
            unfold endW
            rw [show W.data.toList.length = W.size from rfl, ha, Nat.add_sub_cancel]
          have hexs : (W.extract a W.size).size ≤ 200 := by simp; omega
          have hth := HT.out (W.extract a W.size) hexs wr (hbx8.below hbq hbs)
          rw [hext] at hth
          have Hth := Lib.hid hth
          have wa : IntKind.i64.wrap ((W.size : Int) - (r : Int)) = (a : Int) := by rw [IntKind.wrap_i64]; omega
          have a1 : a ≤ W.size := by omega
          have a1' : (a : Int) ≤ W.size := by omega
          have q4 : decide ((r : Int) < 1) = false := decide_eq_false (by omega)
          have q4' : decide (r < 1) = false := decide_eq_false (by omega)
          have hlo := Hlong.out
          have hm2 := HM2.out
          have hyy := HY.out
          rw [Hsn.out] at hlo hm2 hyy hlast
          have hnew := top_new hlo HM1.out hm2
          have hfr := top_fresh hlast HX.out hyy
          rw [← Hsn.out, show W.data.toList.length = W.size from rfl] at hnew
          rw [← Hsn.out] at hfr
          have hnm : n ≤ m := by omega
          have q5 : (((m : Int) - (n : Int)) == ((W.size : Int) - (L : Int))) = true := by rw [beq_iff_eq]; omega
          have e5 : (m : Int) - (n : Int) = (W.size : Int) - (L : Int) := by omega
          have HE5 := Lib.hid e5
          have HFR := Lib.hid hfr
          clear hA hlast hext hexs ha hth hlo hm2 hyy hfr e5 hnew
          by_cases hin : Sub s.data.toList (endW W.data.toList r)
          · rw [thereB_iff.2 hin] at Hth
            obtain rfl := HFR.out.1 hin
            have e6 : ((y : Int) - (y : Int)) = 0 := by omega
            clear hin HFR
            go_wp2_with fail
            refine Hth.out.mono ?_
            rintro e wv ⟨rfl, hbv⟩
            have hbv := chain hbv (chain hbq hb8)
            go_wp2
            all_goals (go_ret; exact ⟨by simp [HE5.out], hbv⟩)
          · rw [thereB_no.2 hin] at Hth
            obtain rfl := HFR.out.2 hin
            have e6 : (((x + 1 : Nat) : Int) - (x : Int)) = 1 := by omega
            have e6' : ((x : Int) + 1 - (x : Int)) = 1 := by omega
            clear hin HFR
            go_wp2_with fail
            refine Hth.out.mono ?_
            rintro e wv ⟨rfl, hbv⟩
            have hbv := chain hbv (chain hbq hb8)
            go_wp2
            all_goals (go_ret; exact ⟨by simp [HE5.out], hbv⟩)
theorem topUnlike_walk (s0 : ByteArray) (x : Int) (hs0 : s0.size ≤ 140737488351232) (hx : (Lit.int .u8 x).wf = true) (w : World) :
    Calls Try.prog 5 #[.string s0, .int .u8 x] w fun e w' => e = .returned (.bool true) ∧ Below w.heap.size w w' := by
  obtain ⟨b, rfl⟩ : ∃ b : UInt8, x = (b.toNat : Int) := by
    obtain ⟨h1, h2⟩ := bounds_u8 hx
    exact ⟨UInt8.ofNat x.toNat, by rw [UInt8.toNat_ofNat']; omega⟩
  exact topUnlike_core s0 b hs0 w
end Go.Proofs.Ytmephgemokngnaa

/- TopUnlike: for every input the law returns true, and each argument reads afterwards as it read before. -/
namespace Go.Proofs.Ytmephgemokngnaa.topUnlike
open Go.ChangeShapes Go.WideShapes Go.ChangeAt Go.RowKit
open Go.ChangeMaps (open_string shut_string)
set_option linter.unusedVariables false

theorem own : ownKnob Try.prog.godebug = none := by kernel_rfl
theorem laidOut : laidOutB Try.prog = true := by kernel_rfl

set_option maxRecDepth 100000 in
theorem lifted (os : Os) (started : os.Started) (H : Type) (enc : TypeId × Value → H) :
    ReturnsInHanded {} Try.checked os 5 .any (Rows.topUnlikeSpec.pre6 enc Try.prog Try.f5 Rows.topUnlikeRow.domain false) (Rows.topUnlikeSpec.post enc Try.prog Try.f5 false true false false) := by
  refine returnsInHanded_of_change_sized (C := Try.checked) own started (by kernel_rfl) Try.func5
    (ChangeSpec.witness6 (enc := enc) (C := Try.checked) false ⟨#[], #[.string ByteArray.empty, .int .u8 0], []⟩ 8 (by kernel_rfl) (by kernel_rfl) (by kernel_rfl) (by kernel_rfl)) ?_
  intro W base args ds gs before hval0 hW hcnd hsz0 _
  have hval : ∀ (j : Nat) t v, Try.f5.params[j]? = some t → args[j]? = some v → Value.okWide Try.prog W .any base t v := hval0
  have hsz : (DataW.weightsEach Try.prog (Try.f5.params.toList ++ Rows.topUnlikeSpec.plain.varTypes Try.prog) (ds ++ gs)).all (· ≤ reachBytes) = true := hsz0
  have hW' := hW
  obtain ⟨p, q, hA0, hV, rfl, hfz, hnd⟩ := hW
  have hA : DataW.TrodAll enc Try.prog W 0 (fun _ => true) true Try.f5.params.toList args.toList ds p := hA0
  rw [Try.params5] at hA hval hsz
  obtain ⟨v0, vs0, d0, ds0, p0, q0, hargs, rfl, rfl, h0, r0⟩ := trodAll_cons hA
  obtain ⟨v1, vs1, d1, ds1, p1, q1, rfl, rfl, rfl, h1, r1⟩ := trodAll_cons r0
  obtain ⟨rfl, rfl, rfl⟩ := trodAll_nil r1
  obtain rfl : args = #[v0, v1] := by cases args; simp_all
  obtain ⟨rfl, rfl⟩ := trodVars_none hV
  obtain ⟨a0, rfl, rfl, rfl, w0⟩ := open_string Try.underlying9 (hval 0 9 v0 rfl rfl) h0
  obtain ⟨a1, rfl, rfl, rfl, w1⟩ := open_int Try.underlying5 (hval 1 5 v1 rfl rfl) h1
  clear hA0 hval0
  have b0 : a0.size ≤ 140737488351232 := sized_string hsz (j := 0) rfl rfl
  refine (topUnlike_walk a0 a1 b0 w1 (w := W)).mono fun e W' ⟨he, bel⟩ => ?_
  subst he
  exact ⟨_, rfl, _, _, _, [], _, [], hW', trodAll_mk1 (shut_bool Try.underlying4 _), (trodAll_cons_mk (shut_string Try.underlying9 w0) (trodAll_cons_mk (shut_int Try.underlying5 w1) trodAll_mk0)), rfl, bel.frame _, fun h => by cases h⟩

theorem holds : Rows.TopUnlikeSaid :=
  OpenClaim.holds_of_wide 5 Try.f5 rfl rfl rfl rfl rfl rfl rfl ⟨rfl, rfl, rfl, rfl, rfl⟩ rfl rfl rfl rfl rfl (by kernel_rfl) Try.func5 (by kernel_rfl)
    (of_decide_eq_true (by kernel_rfl)) (by unfold Func.isWrapper; first | (rw [if_pos (by decide +kernel)]; kernel_rfl) | (rw [if_neg (by decide +kernel)]; exact ⟨rfl, rfl⟩))
    (fun os started H enc _ => lifted os started H enc)
#print axioms holds
end Go.Proofs.Ytmephgemokngnaa.topUnlike

