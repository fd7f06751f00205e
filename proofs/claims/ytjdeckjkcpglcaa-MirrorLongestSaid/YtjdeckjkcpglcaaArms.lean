/- The walk of mirror.Arms: Manacher's arms. -/
import Derived.Test.YtjdeckjkcpglcaaMirror
import Derived.Test.YtjdeckjkcpglcaaCheck
import Derived.IntWalk
import Derived.Deep.QuietTactic
import Derived.BigQuiet
namespace Go.Proofs.Ytjdeckjkcpglcaa
open Go.RowKit
set_option linter.unusedVariables false

theorem infoIntM : (Try.prog.info? 3).map (fun i => (i.zero, i.size, i.bytes)) = some (some (.int .i64 0), 1, 8) := by kernel_rfl
theorem IntsAt.drewA {w : World} {g : Nat} {l : List Int} (h : IntsAt w g l) (n : Nat) : IntsAt (w.drewN n) g l := h

set_option maxRecDepth 100000 in
set_option maxHeartbeats 4000000 in
theorem arms_ok (s : ByteArray) (hs : s.size ≤ 200) (w : World) :
    Calls Try.prog 6 #[.string s] w fun e w' => ∃ (g : Nat) (l : List Int), e = .returned (.tuple #[.slice (some ⟨g, 0, none⟩) (2 * s.size + 1) (2 * s.size + 1), .int .i64 0]) ∧
      l.length = 2 * s.size + 1 ∧ IntsAt w' g l ∧ (∀ j, j < 2 * s.size + 1 → ∃ n : Nat, l.getD j 0 = n ∧ IsArm s.data.toList j n) ∧ Below w.heap.size w w' := by
  have hmk := fun w : World => make_ints (P := Try.prog) 26 3 Try.underlying26 infoIntM (2 * s.size + 1) (2 * (s.size : Int) + 1) (by omega) (by omega) w
  have hLs : s.data.toList.length = s.size := rfl
  go_enter Try.func6, Try.ntmps6
  go_wp2_with fail
  refine (wordCheck_ok s hs _).mono ?_
  rintro e w1 ⟨rfl, rfl⟩
  go_wp2
  obtain ⟨hb0, hz0, hat0⟩ := ints_made w (2 * s.size + 1) 3
  generalize hW : World.alloc _ _ = W at *
  clear hW hmk
  have hg := Nat.le_refl w.heap.size
  have hg2 : w.heap.size < W.heap.size := by omega
  generalize hgg : w.heap.size = g at hg hg2 hat0 ⊢
  have hlow : w.heap.size ≤ g := by omega
  clear hgg hz0 hg
  go_loopw [6, 7, 8, 9, 22] (fun m x _ _ i wr => ∃ (k mid e : Nat) (l : List Int), k ≤ 2 * s.size + 1 ∧ i = .int .i64 k ∧ m = .int .i64 mid ∧ x = .int .i64 e ∧ l.length = 2 * s.size + 1 ∧ IntsAt wr g l ∧ Below w.heap.size w wr ∧
      (∀ j, j < k → ∃ n : Nat, l.getD j 0 = n ∧ IsArm s.data.toList j n) ∧ mid ≤ e ∧ e ≤ 2 * s.size ∧ Arm s.data.toList mid (e - mid) ∧ (mid < k ∨ (mid = 0 ∧ e = 0)))
    (fun _ _ _ _ i _ => 2 * s.size + 1 - (intOf i).toNat)
  case atStart => exact ⟨0, 0, 0, List.replicate (2 * s.size + 1) 0, Nat.zero_le _, rfl, rfl, rfl, by simp, hat0, hb0, fun j hj => by omega, by omega, by omega, Arm.zero (by omega), .inr ⟨rfl, rfl⟩⟩
  case round =>
    obtain ⟨k, mid, e, l, hk, rfl, rfl, rfl, hl, hat, hbr, hv, hme, he2, hmeA, hmk⟩ := hrel
    have Hl := Lib.hid hl
    have Hv := Lib.hid hv
    have Hme := Lib.hid hmeA
    clear hl hv hmeA
    by_cases hlt : k < 2 * s.size + 1
    · by_cases hke : k < e
      · obtain ⟨a, ha, haa⟩ := Hv.out (2 * mid - k) (by omega)
        have hmk' : mid < k := by omega
        have h2m : k ≤ 2 * mid := by have := Hme.out.1; omega
        have hcell := (hat.2 (2 * mid - k) (by rw [Hl.out]; omega)).1
        rw [ha] at hcell
        have hab := haa.1.1
        have harm0 : Arm s.data.toList k (min a (e - k)) := arm_mirror Hme.out hmk' hke haa.1 (Nat.min_le_left _ _) (Nat.min_le_right _ _)
        have Harm0 := Lib.hid harm0
        have q0 : decide ((k : Int) < (e : Int)) = true := decide_eq_true (by omega)
        have hmin : ∀ (ats : Array TypeId) (t : TypeId) (w : World), (Builtin.min_ ats t #[.int .i64 (a : Int), .int .i64 ((e : Int) - (k : Int))]).run Try.prog w = .ok (.int .i64 ((min a (e - k) : Nat) : Int)) w := fun ats t w => by
          rw [run_min_int2]; congr 2; omega
        clear harm0 ha haa
        generalize min a (e - k) = n0 at *
        go_wp2
        go_loopw [9] (fun v wq => ∃ n : Nat, v = .int .i64 n ∧ Arm s.data.toList k n ∧ Below w.heap.size w wq ∧ IntsAt wq g l) (fun v _ => 2 * s.size - (intOf v).toNat)
        case atStart => exact ⟨n0, by rfl, Harm0.out, hbr, hat⟩
        case round =>
          clear hat hbr
          obtain ⟨n, rfl, harm, hbr, hat⟩ := hrel
          have hn1 := harm.1
          have hn2 : k + n ≤ 2 * s.size := harm.2.1
          by_cases hc1 : n < k
          · have q1 : decide (n < k) = true := decide_eq_true hc1
            have q1' : decide ((0 : Int) < (k : Int) - (n : Int)) = true := decide_eq_true (by omega)
            by_cases hc2 : k + n < 2 * s.size
            · have q2 : decide ((k : Int) + (n : Int) < 2 * (s.size : Int)) = true := decide_eq_true (by omega)
              by_cases hc3 : (k + n) % 2 = 1
              · have q3 : (((k : Int) + (n : Int)) % 2 == 1) = true := by rw [beq_iff_eq]; omega
                have hnext := arm_step harm hc1 hc2 (.inl hc3)
                have Hnext := Lib.hid hnext
                clear hnext hc3
                go_wp2
                go_quiet (fail)
                go_wp2
                go_roundw
                case rel => exact ⟨n + 1, by go_num, Hnext.out, below_drewN hbr _, hat⟩
                case measure => simp only [intOf]; omega
              · have q3 : (((k : Int) + (n : Int)) % 2 == 1) = false := by rw [beq_eq_false_iff_ne]; omega
                have i1 : (k - n) / 2 - 1 < s.size := by omega
                have i2 : (k + n) / 2 < s.size := by omega
                have j1 : (((k : Int) - (n : Int)) / 2 - 1) = (((k - n) / 2 - 1 : Nat) : Int) := by omega
                have j2 : (((k : Int) + (n : Int)) / 2) = (((k + n) / 2 : Nat) : Int) := by omega
                have hb : IntKind.i64.wrap (((k : Int) - (n : Int)) / 2 - 1) = (((k - n) / 2 - 1 : Nat) : Int) := by rw [← j1]; exact IntWalk.i64_in _ (by omega)
                have hstep := fun h => arm_step harm hc1 hc2 (.inr h)
                have hstop := fun (h : ¬ (s.data.toList.getD ((k - n) / 2 - 1) 0 = s.data.toList.getD ((k + n) / 2) 0)) => arm_stop (s := s.data.toList) (k := k) (n := n) (fun hh => h (hh.2.2.resolve_left hc3))
                rw [getD_bytes s _ i1, getD_bytes s _ i2] at hstep hstop
                generalize hp : (k - n) / 2 - 1 = p at *
                generalize hq : (k + n) / 2 = q at *
                have Hstep := Lib.hid hstep
                have Hstop := Lib.hid hstop
                clear hstep hstop hp hq hc3
                by_cases hc4 : s[p] = s[q]
                · have q4 : ((s[p].toNat : Int) == (s[q].toNat : Int)) = true := by rw [hc4]; simp
                  have hnext := Hstep.out hc4
                  have Hnext := Lib.hid hnext
                  clear hnext Hstep Hstop hc4
                  go_wp2
                  go_quiet (fail)
                  go_wp2
                  go_roundw
                  case rel => exact ⟨n + 1, by go_num, Hnext.out, below_drewN hbr _, hat⟩
                  case measure => simp only [intOf]; omega
                · have q4 : ((s[p].toNat : Int) == (s[q].toNat : Int)) = false := by rw [beq_eq_false_iff_ne]; intro h; exact hc4 (UInt8.toNat_inj.1 (by omega))
                  have hno := Hstop.out hc4
                  have Hno := Lib.hid hno
                  clear hno Hstep Hstop hc4
                  go_wp2
                  go_quiet (fail)
                  have hat := hat.drewA nq
                  have hbr := below_drewN hbr nq
                  generalize World.drewN _ nq = wz at *
                  obtain ⟨hck, hfk⟩ := hat.2 k (by rw [Hl.out]; omega)
                  have Hv2 : Hid (∀ j, j < k + 1 → ∃ n' : Nat, (l.set k (n : Int)).getD j 0 = n' ∧ IsArm s.data.toList j n') := fun j hj => by
                    rw [getD_set _ _ _ _ (by rw [Hl.out]; omega)]
                    by_cases ej : j = k
                    · exact ⟨n, by rw [if_pos ej], by rw [ej]; exact ⟨harm, Hno.out⟩⟩
                    · rw [if_neg ej]; exact Hv.out j (by omega)
                  by_cases hgt : e < k + n
                  · have q5 : decide ((e : Int) < (k : Int) + (n : Int)) = true := decide_eq_true (by omega)
                    go_wp2
                    go_roundw
                    case rel => exact ⟨k + 1, k, k + n, l.set k n, by omega, by go_num, rfl, by go_num, by rw [List.length_set]; exact Hl.out, hat.set k (by rw [Hl.out]; omega) _, hbr.setCell hlow _, Hv2.out, by omega, by omega, by rw [Nat.add_sub_cancel_left]; exact harm, .inl (by omega)⟩
                    case measure => simp only [intOf]; omega
                  · have q5 : decide ((e : Int) < (k : Int) + (n : Int)) = false := decide_eq_false (by omega)
                    go_wp2
                    go_roundw
                    case rel => exact ⟨k + 1, mid, e, l.set k n, by omega, by go_num, rfl, rfl, by rw [List.length_set]; exact Hl.out, hat.set k (by rw [Hl.out]; omega) _, hbr.setCell hlow _, Hv2.out, hme, he2, Hme.out, by omega⟩
                    case measure => simp only [intOf]; omega
            · have q2 : decide ((k : Int) + (n : Int) < 2 * (s.size : Int)) = false := decide_eq_false (by omega)
              have Hno := Lib.hid (arm_stop (s := s.data.toList) (k := k) (n := n) (fun hh => hc2 hh.2.1))
              go_wp2
              go_quiet (fail)
              have hat := hat.drewA nq
              have hbr := below_drewN hbr nq
              generalize World.drewN _ nq = wz at *
              obtain ⟨hck, hfk⟩ := hat.2 k (by rw [Hl.out]; omega)
              have Hv2 : Hid (∀ j, j < k + 1 → ∃ n' : Nat, (l.set k (n : Int)).getD j 0 = n' ∧ IsArm s.data.toList j n') := fun j hj => by
                rw [getD_set _ _ _ _ (by rw [Hl.out]; omega)]
                by_cases ej : j = k
                · exact ⟨n, by rw [if_pos ej], by rw [ej]; exact ⟨harm, Hno.out⟩⟩
                · rw [if_neg ej]; exact Hv.out j (by omega)
              by_cases hgt : e < k + n
              · have q5 : decide ((e : Int) < (k : Int) + (n : Int)) = true := decide_eq_true (by omega)
                go_wp2
                go_roundw
                case rel => exact ⟨k + 1, k, k + n, l.set k n, by omega, by go_num, rfl, by go_num, by rw [List.length_set]; exact Hl.out, hat.set k (by rw [Hl.out]; omega) _, hbr.setCell hlow _, Hv2.out, by omega, by omega, by rw [Nat.add_sub_cancel_left]; exact harm, .inl (by omega)⟩
                case measure => simp only [intOf]; omega
              · have q5 : decide ((e : Int) < (k : Int) + (n : Int)) = false := decide_eq_false (by omega)
                go_wp2
                go_roundw
                case rel => exact ⟨k + 1, mid, e, l.set k n, by omega, by go_num, rfl, rfl, by rw [List.length_set]; exact Hl.out, hat.set k (by rw [Hl.out]; omega) _, hbr.setCell hlow _, Hv2.out, hme, he2, Hme.out, by omega⟩
                case measure => simp only [intOf]; omega
          · have q1 : decide (n < k) = false := decide_eq_false hc1
            have q1' : decide ((0 : Int) < (k : Int) - (n : Int)) = false := decide_eq_false (by omega)
            have Hno := Lib.hid (arm_stop (s := s.data.toList) (k := k) (n := n) (fun hh => hc1 hh.1))
            go_wp2
            go_quiet (fail)
            have hat := hat.drewA nq
            have hbr := below_drewN hbr nq
            generalize World.drewN _ nq = wz at *
            obtain ⟨hck, hfk⟩ := hat.2 k (by rw [Hl.out]; omega)
            have Hv2 : Hid (∀ j, j < k + 1 → ∃ n' : Nat, (l.set k (n : Int)).getD j 0 = n' ∧ IsArm s.data.toList j n') := fun j hj => by
              rw [getD_set _ _ _ _ (by rw [Hl.out]; omega)]
              by_cases ej : j = k
              · exact ⟨n, by rw [if_pos ej], by rw [ej]; exact ⟨harm, Hno.out⟩⟩
              · rw [if_neg ej]; exact Hv.out j (by omega)
            by_cases hgt : e < k + n
            · have q5 : decide ((e : Int) < (k : Int) + (n : Int)) = true := decide_eq_true (by omega)
              go_wp2
              go_roundw
              case rel => exact ⟨k + 1, k, k + n, l.set k n, by omega, by go_num, rfl, by go_num, by rw [List.length_set]; exact Hl.out, hat.set k (by rw [Hl.out]; omega) _, hbr.setCell hlow _, Hv2.out, by omega, by omega, by rw [Nat.add_sub_cancel_left]; exact harm, .inl (by omega)⟩
              case measure => simp only [intOf]; omega
            · have q5 : decide ((e : Int) < (k : Int) + (n : Int)) = false := decide_eq_false (by omega)
              go_wp2
              go_roundw
              case rel => exact ⟨k + 1, mid, e, l.set k n, by omega, by go_num, rfl, rfl, by rw [List.length_set]; exact Hl.out, hat.set k (by rw [Hl.out]; omega) _, hbr.setCell hlow _, Hv2.out, hme, he2, Hme.out, by omega⟩
              case measure => simp only [intOf]; omega
      · have q0 : decide ((k : Int) < (e : Int)) = false := decide_eq_false (by omega)
        go_wp2
        go_loopw [9] (fun v wq => ∃ n : Nat, v = .int .i64 n ∧ Arm s.data.toList k n ∧ Below w.heap.size w wq ∧ IntsAt wq g l) (fun v _ => 2 * s.size - (intOf v).toNat)
        case atStart => exact ⟨0, by rfl, Arm.zero (by omega), hbr, hat⟩
        case round =>
          clear hat hbr
          obtain ⟨n, rfl, harm, hbr, hat⟩ := hrel
          have hn1 := harm.1
          have hn2 : k + n ≤ 2 * s.size := harm.2.1
          by_cases hc1 : n < k
          · have q1 : decide (n < k) = true := decide_eq_true hc1
            have q1' : decide ((0 : Int) < (k : Int) - (n : Int)) = true := decide_eq_true (by omega)
            by_cases hc2 : k + n < 2 * s.size
            · have q2 : decide ((k : Int) + (n : Int) < 2 * (s.size : Int)) = true := decide_eq_true (by omega)
              by_cases hc3 : (k + n) % 2 = 1
              · have q3 : (((k : Int) + (n : Int)) % 2 == 1) = true := by rw [beq_iff_eq]; omega
                have hnext := arm_step harm hc1 hc2 (.inl hc3)
                have Hnext := Lib.hid hnext
                clear hnext hc3
                go_wp2
                go_quiet (fail)
                go_wp2
                go_roundw
                case rel => exact ⟨n + 1, by go_num, Hnext.out, below_drewN hbr _, hat⟩
                case measure => simp only [intOf]; omega
              · have q3 : (((k : Int) + (n : Int)) % 2 == 1) = false := by rw [beq_eq_false_iff_ne]; omega
                have i1 : (k - n) / 2 - 1 < s.size := by omega
                have i2 : (k + n) / 2 < s.size := by omega
                have j1 : (((k : Int) - (n : Int)) / 2 - 1) = (((k - n) / 2 - 1 : Nat) : Int) := by omega
                have j2 : (((k : Int) + (n : Int)) / 2) = (((k + n) / 2 : Nat) : Int) := by omega
                have hb : IntKind.i64.wrap (((k : Int) - (n : Int)) / 2 - 1) = (((k - n) / 2 - 1 : Nat) : Int) := by rw [← j1]; exact IntWalk.i64_in _ (by omega)
                have hstep := fun h => arm_step harm hc1 hc2 (.inr h)
                have hstop := fun (h : ¬ (s.data.toList.getD ((k - n) / 2 - 1) 0 = s.data.toList.getD ((k + n) / 2) 0)) => arm_stop (s := s.data.toList) (k := k) (n := n) (fun hh => h (hh.2.2.resolve_left hc3))
                rw [getD_bytes s _ i1, getD_bytes s _ i2] at hstep hstop
                generalize hp : (k - n) / 2 - 1 = p at *
                generalize hq : (k + n) / 2 = q at *
                have Hstep := Lib.hid hstep
                have Hstop := Lib.hid hstop
                clear hstep hstop hp hq hc3
                by_cases hc4 : s[p] = s[q]
                · have q4 : ((s[p].toNat : Int) == (s[q].toNat : Int)) = true := by rw [hc4]; simp
                  have hnext := Hstep.out hc4
                  have Hnext := Lib.hid hnext
                  clear hnext Hstep Hstop hc4
                  go_wp2
                  go_quiet (fail)
                  go_wp2
                  go_roundw
                  case rel => exact ⟨n + 1, by go_num, Hnext.out, below_drewN hbr _, hat⟩
                  case measure => simp only [intOf]; omega
                · have q4 : ((s[p].toNat : Int) == (s[q].toNat : Int)) = false := by rw [beq_eq_false_iff_ne]; intro h; exact hc4 (UInt8.toNat_inj.1 (by omega))
                  have hno := Hstop.out hc4
                  have Hno := Lib.hid hno
                  clear hno Hstep Hstop hc4
                  go_wp2
                  go_quiet (fail)
                  have hat := hat.drewA nq
                  have hbr := below_drewN hbr nq
                  generalize World.drewN _ nq = wz at *
                  obtain ⟨hck, hfk⟩ := hat.2 k (by rw [Hl.out]; omega)
                  have Hv2 : Hid (∀ j, j < k + 1 → ∃ n' : Nat, (l.set k (n : Int)).getD j 0 = n' ∧ IsArm s.data.toList j n') := fun j hj => by
                    rw [getD_set _ _ _ _ (by rw [Hl.out]; omega)]
                    by_cases ej : j = k
                    · exact ⟨n, by rw [if_pos ej], by rw [ej]; exact ⟨harm, Hno.out⟩⟩
                    · rw [if_neg ej]; exact Hv.out j (by omega)
                  by_cases hgt : e < k + n
                  · have q5 : decide ((e : Int) < (k : Int) + (n : Int)) = true := decide_eq_true (by omega)
                    go_wp2
                    go_roundw
                    case rel => exact ⟨k + 1, k, k + n, l.set k n, by omega, by go_num, rfl, by go_num, by rw [List.length_set]; exact Hl.out, hat.set k (by rw [Hl.out]; omega) _, hbr.setCell hlow _, Hv2.out, by omega, by omega, by rw [Nat.add_sub_cancel_left]; exact harm, .inl (by omega)⟩
                    case measure => simp only [intOf]; omega
                  · have q5 : decide ((e : Int) < (k : Int) + (n : Int)) = false := decide_eq_false (by omega)
                    go_wp2
                    go_roundw
                    case rel => exact ⟨k + 1, mid, e, l.set k n, by omega, by go_num, rfl, rfl, by rw [List.length_set]; exact Hl.out, hat.set k (by rw [Hl.out]; omega) _, hbr.setCell hlow _, Hv2.out, hme, he2, Hme.out, by omega⟩
                    case measure => simp only [intOf]; omega
            · have q2 : decide ((k : Int) + (n : Int) < 2 * (s.size : Int)) = false := decide_eq_false (by omega)
              have Hno := Lib.hid (arm_stop (s := s.data.toList) (k := k) (n := n) (fun hh => hc2 hh.2.1))
              go_wp2
              go_quiet (fail)
              have hat := hat.drewA nq
              have hbr := below_drewN hbr nq
              generalize World.drewN _ nq = wz at *
              obtain ⟨hck, hfk⟩ := hat.2 k (by rw [Hl.out]; omega)
              have Hv2 : Hid (∀ j, j < k + 1 → ∃ n' : Nat, (l.set k (n : Int)).getD j 0 = n' ∧ IsArm s.data.toList j n') := fun j hj => by
                rw [getD_set _ _ _ _ (by rw [Hl.out]; omega)]
                by_cases ej : j = k
                · exact ⟨n, by rw [if_pos ej], by rw [ej]; exact ⟨harm, Hno.out⟩⟩
                · rw [if_neg ej]; exact Hv.out j (by omega)
              by_cases hgt : e < k + n
              · have q5 : decide ((e : Int) < (k : Int) + (n : Int)) = true := decide_eq_true (by omega)
                go_wp2
                go_roundw
                case rel => exact ⟨k + 1, k, k + n, l.set k n, by omega, by go_num, rfl, by go_num, by rw [List.length_set]; exact Hl.out, hat.set k (by rw [Hl.out]; omega) _, hbr.setCell hlow _, Hv2.out, by omega, by omega, by rw [Nat.add_sub_cancel_left]; exact harm, .inl (by omega)⟩
                case measure => simp only [intOf]; omega
              · have q5 : decide ((e : Int) < (k : Int) + (n : Int)) = false := decide_eq_false (by omega)
                go_wp2
                go_roundw
                case rel => exact ⟨k + 1, mid, e, l.set k n, by omega, by go_num, rfl, rfl, by rw [List.length_set]; exact Hl.out, hat.set k (by rw [Hl.out]; omega) _, hbr.setCell hlow _, Hv2.out, hme, he2, Hme.out, by omega⟩
                case measure => simp only [intOf]; omega
          · have q1 : decide (n < k) = false := decide_eq_false hc1
            have q1' : decide ((0 : Int) < (k : Int) - (n : Int)) = false := decide_eq_false (by omega)
            have Hno := Lib.hid (arm_stop (s := s.data.toList) (k := k) (n := n) (fun hh => hc1 hh.1))
            go_wp2
            go_quiet (fail)
            have hat := hat.drewA nq
            have hbr := below_drewN hbr nq
            generalize World.drewN _ nq = wz at *
            obtain ⟨hck, hfk⟩ := hat.2 k (by rw [Hl.out]; omega)
            have Hv2 : Hid (∀ j, j < k + 1 → ∃ n' : Nat, (l.set k (n : Int)).getD j 0 = n' ∧ IsArm s.data.toList j n') := fun j hj => by
              rw [getD_set _ _ _ _ (by rw [Hl.out]; omega)]
              by_cases ej : j = k
              · exact ⟨n, by rw [if_pos ej], by rw [ej]; exact ⟨harm, Hno.out⟩⟩
              · rw [if_neg ej]; exact Hv.out j (by omega)
            by_cases hgt : e < k + n
            · have q5 : decide ((e : Int) < (k : Int) + (n : Int)) = true := decide_eq_true (by omega)
              go_wp2
              go_roundw
              case rel => exact ⟨k + 1, k, k + n, l.set k n, by omega, by go_num, rfl, by go_num, by rw [List.length_set]; exact Hl.out, hat.set k (by rw [Hl.out]; omega) _, hbr.setCell hlow _, Hv2.out, by omega, by omega, by rw [Nat.add_sub_cancel_left]; exact harm, .inl (by omega)⟩
              case measure => simp only [intOf]; omega
            · have q5 : decide ((e : Int) < (k : Int) + (n : Int)) = false := decide_eq_false (by omega)
              go_wp2
              go_roundw
              case rel => exact ⟨k + 1, mid, e, l.set k n, by omega, by go_num, rfl, rfl, by rw [List.length_set]; exact Hl.out, hat.set k (by rw [Hl.out]; omega) _, hbr.setCell hlow _, Hv2.out, hme, he2, Hme.out, by omega⟩
              case measure => simp only [intOf]; omega
    · obtain rfl : k = 2 * s.size + 1 := by omega
      go_wp2
      go_ret2
      exact ⟨g, l, rfl, Hl.out, hat, Hv.out, hbr⟩

set_option maxHeartbeats 400000 in
theorem arms_no (s : ByteArray) (hs : 200 < s.size) (w : World) :
    Calls Try.prog 6 #[.string s] w fun e w' => e = .returned (.tuple #[.slice none 0 0, .int .i64 2]) ∧ w = w' := by
  go_enter Try.func6, Try.ntmps6
  go_wp2_with fail
  refine (wordCheck_no s hs _).mono ?_
  rintro e w1 ⟨rfl, rfl⟩
  go_wp2
  go_ret2
  exact ⟨rfl, rfl⟩

end Go.Proofs.Ytjdeckjkcpglcaa
