/- The walk of seek.Fronts. -/
import Derived.Test.YtkbogiijbmjbmaaFrontsP
import Derived.Test.YtkbogiijbmjbmaaWordWalk
import Derived.IntWalk
namespace Go.Proofs.Ytkbogiijbmjbmaa
open Go.RowKit
set_option linter.unusedVariables false

set_option maxRecDepth 100000 in
set_option maxHeartbeats 4000000 in
theorem fronts_own (s : ByteArray) (hs : s.size ≤ 200) (w : World) :
    Calls Try.prog 10 #[.string s] w fun e w' => ∃ g, e = .returned (.tuple #[.slice (some ⟨g, 0, none⟩) s.size s.size, .int .i64 0]) ∧ w.heap.size ≤ g ∧ IntsAt w' g (zOf s.data.toList) ∧ Below w.heap.size w w' := by
  have hmk := fun w : World => make_ints (P := Try.prog) 25 3 Try.underlying25 infoIntW s.size (s.size : Int) rfl (by omega) w
  go_enter Try.func10, Try.ntmps10
  go_wp2_with fail
  refine (wordCheck_ok s hs _).mono ?_
  rintro e w1 ⟨rfl, rfl⟩
  go_wp2
  obtain ⟨hb0, hz0, hat0⟩ := ints_made w s.size 3
  generalize hW : World.alloc _ _ = W at *
  clear hW hmk
  have hgW : w.heap.size < W.heap.size := by omega
  generalize hgg : w.heap.size = g at *
  have Hgg := Lib.hid hgg
  clear hgg hz0
  go_loopw [6, 7, 8, 9, 20] (fun fv tv _ _ iv wr => ∃ (i fr to : Nat) (l : List Int), i ≤ s.size ∧ iv = .int .i64 i ∧ fv = .int .i64 fr ∧ tv = .int .i64 to ∧ fr ≤ s.size ∧ to ≤ s.size ∧ (to = 0 ∨ fr < i) ∧ Hid (l.length = s.size) ∧ IntsAt wr g l ∧ Below g w wr ∧
      Hid (Seg s.data.toList fr to) ∧ Hid (∀ j, j < i → l.getD j 0 = ((zat s.data.toList j : Nat) : Int)))
    (fun _ _ _ _ iv _ => s.size - (intOf iv).toNat)
  case atStart => exact ⟨0, 0, 0, List.replicate s.size 0, Nat.zero_le _, rfl, rfl, rfl, Nat.zero_le _, Nat.zero_le _, .inl rfl, Lib.hid (by rw [List.length_replicate]), hat0, hb0, Lib.hid (seg_start _), Lib.hid fun j hj => by omega⟩
  case round =>
    clear hat0 hb0
    obtain ⟨i, fr, to, l, hi, rfl, rfl, rfl, hfr, hto, hft, Hl, hat, hbr, Hs, Hv⟩ := hrel
    by_cases hlt : i < s.size
    · have hlen : s.data.toList.length = s.size := rfl
      have Hlen := Lib.hid hlen
      clear hlen
      by_cases hit : i < to
      case' pos =>
        have hfi : fr < i := by omega
        have hq : i - fr < i := by have := Hs.out.2.1; omega
        obtain ⟨q, hqe⟩ : ∃ q, i - fr = q := ⟨_, rfl⟩
        rw [hqe] at hq
        have hcell := (hat.2 q (by rw [Hl.out]; omega)).1
        rw [Hv.out q hq] at hcell
        have hz0 := zat_le s.data.toList q (by rw [Hlen.out]; omega)
        rw [Hlen.out] at hz0
        have hzp := Hs.out.zp hfi hit (min (zat s.data.toList q) (to - i)) (by rw [hqe]; exact Nat.min_le_left _ _) (Nat.min_le_right _ _)
        have e1 : (i : Int) - (fr : Int) = (q : Int) := by omega
        have q0 : decide ((0 : Int) < (i : Int)) = true := decide_eq_true (by omega)
        have q1 : decide (i < to) = true := decide_eq_true hit
        have hmin : ∀ (ats : Array TypeId) (t : TypeId) (w : World), (Builtin.min_ ats t #[.int .i64 ((zat s.data.toList q : Nat) : Int), .int .i64 ((to : Int) - (i : Int))]).run Try.prog w = .ok (.int .i64 ((min (zat s.data.toList q) (to - i) : Nat) : Int)) w := fun ats t w => by
          rw [run_min_int2]; congr 2; omega
        have Hzp := Lib.hid hzp
        generalize min (zat s.data.toList q) (to - i) = n0 at *
        clear hzp hqe hz0
        generalize zat s.data.toList q = z0 at *
        go_wp2
        clear e1 hmin hcell
      case' neg =>
        obtain ⟨n0, hn0, Hzp⟩ : ∃ n0, n0 = 0 ∧ Hid (Zp s.data.toList i n0) := ⟨0, rfl, Lib.hid (zp_zero (by rw [Hlen.out]; omega))⟩
        have q0 : True := trivial
        have q1 : decide (i < to) = false := decide_eq_false hit
        go_wp2
        all_goals subst hn0
      all_goals
        go_loopw [9] (fun v wq => ∃ n : Nat, v = .int .i64 n ∧ n ≤ s.size ∧ Hid (Zp s.data.toList i n) ∧ Below g w wq ∧ IntsAt wq g l) (fun v _ => s.size - (intOf v).toNat)
        case atStart => exact ⟨_, by rfl, by have := Hzp.out.1; rw [Hlen.out] at this; omega, Hzp, hbr, hat⟩
        case round =>
          clear hat hbr
          obtain ⟨n, rfl, hns, Hn, hbr, hat⟩ := hrel
          by_cases hin : i + n < s.size
          · have hn' : n < s.size := by omega
            obtain ⟨m, hm⟩ : ∃ m, i + n = m := ⟨_, rfl⟩
            have hms : m < s.size := by omega
            have hgn := getD_bytes s n hn'
            have hgi := getD_bytes s m hms
            have Hgn := Lib.hid hgn
            have Hgi := Lib.hid hgi
            have Hm := Lib.hid hm
            have hwr : IntKind.i64.wrap ((i : Int) + (n : Int)) = (m : Int) := by rw [← hm]; exact IntWalk.i64_in _ (by omega)
            have i1 : (n : Int) < (s.size : Int) := by omega
            have i2 : (m : Int) < (s.size : Int) := by omega
            clear hgn hgi hm
            by_cases heq : s[n] = s[m]
            · have q4 : ((s[n].toNat : Int) == (s[m].toNat : Int)) = true := by rw [heq]; simp
              have q3 : decide ((i : Int) + (n : Int) < (s.size : Int)) = true := decide_eq_true (by omega)
              have hnext := Hn.out.step (by rw [Hlen.out]; exact hin) (by rw [Hgn.out, Hm.out, Hgi.out]; exact heq)
              have Hnext := Lib.hid hnext
              clear hnext heq
              go_wp2
              go_quiet (fail)
              clear hwr
              go_wp2
              go_roundw
              case rel => exact ⟨n + 1, by go_num, by omega, Hnext, below_drewN hbr _, hat.drewN _⟩
              case measure => simp only [intOf]; omega
            · have q4 : ((s[n].toNat : Int) == (s[m].toNat : Int)) = false := by rw [beq_eq_false_iff_ne]; intro h; exact heq (UInt8.toNat_inj.1 (by omega))
              have q3 : decide ((i : Int) + (n : Int) < (s.size : Int)) = true := decide_eq_true (by omega)
              have hdone := Hn.out.done (fun _ => by rw [Hgn.out, Hm.out, Hgi.out]; exact heq)
              have Hdone := Lib.hid hdone
              clear hdone heq
              go_wp2
              go_quiet (fail)
              clear hwr
              have hat := hat.drewN nq
              have hbr := below_drewN hbr nq
              generalize World.drewN _ nq = wz at *
              obtain ⟨hck, hfk⟩ := hat.2 i (by rw [Hl.out]; exact hlt)
              have Hv2 : Hid (∀ j, j < i + 1 → (l.set i (n : Int)).getD j 0 = ((zat s.data.toList j : Nat) : Int)) := Lib.hid fun j hj => by
                rw [getD_set _ _ _ _ (by rw [Hl.out]; exact hlt)]
                by_cases ej : j = i
                · rw [if_pos ej, ej, Hdone.out]
                · rw [if_neg ej]; exact Hv.out j (by omega)
              have hnn := Hn.out.1
              rw [Hlen.out] at hnn
              have hl2 : (l.set i (n : Int)).length = s.size := by rw [List.length_set]; exact Hl.out
              have Hl2 := Lib.hid hl2
              clear hl2
              rcases (show (0 < i ∧ to < i + n) ∨ (0 < i ∧ ¬ to < i + n) ∨ i = 0 from by omega) with ⟨h0, hgt⟩ | ⟨h0, hgt⟩ | h0
              · first
                | (exfalso; omega)
                | (have q2 : decide ((0 : Int) < (i : Int)) = true := decide_eq_true (by omega)
                   have q5 : decide ((to : Int) < (i : Int) + (n : Int)) = true := decide_eq_true (by omega)
                   go_wp2
                   go_roundw
                   case rel => exact ⟨i + 1, i, i + n, l.set i n, by omega, by go_num, rfl, by go_num, by omega, by omega, .inr (by omega), Hl2, hat.set i (by rw [Hl.out]; exact hlt) _, hbr.setCell (Nat.le_refl _) _, Lib.hid (Hn.out.seg h0), Hv2⟩
                   case measure => simp [intOf]; omega)
              · first
                | (exfalso; omega)
                | (have q2 : decide ((0 : Int) < (i : Int)) = true := decide_eq_true (by omega)
                   have q5 : decide ((to : Int) < (i : Int) + (n : Int)) = false := decide_eq_false (by omega)
                   go_wp2
                   go_roundw
                   case rel => exact ⟨i + 1, fr, to, l.set i n, by omega, by go_num, rfl, rfl, hfr, hto, by omega, Hl2, hat.set i (by rw [Hl.out]; exact hlt) _, hbr.setCell (Nat.le_refl _) _, Hs, Hv2⟩
                   case measure => simp [intOf]; omega)
              · first
                | (exfalso; omega)
                | (subst h0
                   have q2 : decide ((0 : Int) < ((0 : Nat) : Int)) = false := by decide
                   go_wp2
                   go_roundw
                   case rel => exact ⟨0 + 1, fr, to, l.set 0 n, by omega, by go_num, rfl, rfl, hfr, hto, by omega, Hl2, hat.set 0 (by rw [Hl.out]; exact hlt) _, hbr.setCell (Nat.le_refl _) _, Hs, Hv2⟩
                   case measure => simp [intOf]; omega)
          · have q3 : decide ((i : Int) + (n : Int) < (s.size : Int)) = false := decide_eq_false (by omega)
            have hdone := Hn.out.done (fun h => absurd h (by rw [Hlen.out]; exact hin))
            have Hdone := Lib.hid hdone
            clear hdone
            go_wp2
            go_quiet (fail)
            have hat := hat.drewN nq
            have hbr := below_drewN hbr nq
            generalize World.drewN _ nq = wz at *
            obtain ⟨hck, hfk⟩ := hat.2 i (by rw [Hl.out]; exact hlt)
            have Hv2 : Hid (∀ j, j < i + 1 → (l.set i (n : Int)).getD j 0 = ((zat s.data.toList j : Nat) : Int)) := Lib.hid fun j hj => by
              rw [getD_set _ _ _ _ (by rw [Hl.out]; exact hlt)]
              by_cases ej : j = i
              · rw [if_pos ej, ej, Hdone.out]
              · rw [if_neg ej]; exact Hv.out j (by omega)
            have hnn := Hn.out.1
            rw [Hlen.out] at hnn
            have hl2 : (l.set i (n : Int)).length = s.size := by rw [List.length_set]; exact Hl.out
            have Hl2 := Lib.hid hl2
            clear hl2
            rcases (show (0 < i ∧ to < i + n) ∨ (0 < i ∧ ¬ to < i + n) ∨ i = 0 from by omega) with ⟨h0, hgt⟩ | ⟨h0, hgt⟩ | h0
            · first
              | (exfalso; omega)
              | (have q2 : decide ((0 : Int) < (i : Int)) = true := decide_eq_true (by omega)
                 have q5 : decide ((to : Int) < (i : Int) + (n : Int)) = true := decide_eq_true (by omega)
                 go_wp2
                 go_roundw
                 case rel => exact ⟨i + 1, i, i + n, l.set i n, by omega, by go_num, rfl, by go_num, by omega, by omega, .inr (by omega), Hl2, hat.set i (by rw [Hl.out]; exact hlt) _, hbr.setCell (Nat.le_refl _) _, Lib.hid (Hn.out.seg h0), Hv2⟩
                 case measure => simp [intOf]; omega)
            · first
              | (exfalso; omega)
              | (have q2 : decide ((0 : Int) < (i : Int)) = true := decide_eq_true (by omega)
                 have q5 : decide ((to : Int) < (i : Int) + (n : Int)) = false := decide_eq_false (by omega)
                 go_wp2
                 go_roundw
                 case rel => exact ⟨i + 1, fr, to, l.set i n, by omega, by go_num, rfl, rfl, hfr, hto, by omega, Hl2, hat.set i (by rw [Hl.out]; exact hlt) _, hbr.setCell (Nat.le_refl _) _, Hs, Hv2⟩
                 case measure => simp [intOf]; omega)
            · first
              | (exfalso; omega)
              | (subst h0
                 have q2 : decide ((0 : Int) < ((0 : Nat) : Int)) = false := by decide
                 go_wp2
                 go_roundw
                 case rel => exact ⟨0 + 1, fr, to, l.set 0 n, by omega, by go_num, rfl, rfl, hfr, hto, by omega, Hl2, hat.set 0 (by rw [Hl.out]; exact hlt) _, hbr.setCell (Nat.le_refl _) _, Hs, Hv2⟩
                 case measure => simp [intOf]; omega)
    · go_wp2
      go_ret2
      have hle : l = zOf s.data.toList := by
        refine ext_getD _ _ 0 (by rw [Hl.out, zOf_length]; rfl) fun j hj => ?_
        rw [Hl.out] at hj
        rw [Hv.out j (by omega), zOf_at _ _ hj]
      exact ⟨g, rfl, by rw [Hgg.out]; exact Nat.le_refl _, by rw [← hle]; exact hat, by rw [Hgg.out]; exact hbr⟩
theorem fronts_ok (s : ByteArray) (hs : s.size ≤ 200) (w : World) :
    Calls Try.prog 10 #[.string s] w fun e w' => ∃ A, e = .returned (.tuple #[.slice A s.size s.size, .int .i64 0]) ∧
      Reads w' w'.heap.size A s.size 1 ((zOf s.data.toList).flatMap cInt) ∧ Below w.heap.size w w' := by
  refine (fronts_own s hs w).mono ?_
  rintro e w' ⟨g, rfl, hg, hat, hb⟩
  have := intsAt_reads hat
  rw [show (zOf s.data.toList).length = s.size from zOf_length _] at this
  exact ⟨some ⟨g, 0, none⟩, rfl, this, hb⟩

set_option maxHeartbeats 400000 in
theorem fronts_no (s : ByteArray) (hs : 200 < s.size) (w : World) :
    Calls Try.prog 10 #[.string s] w fun e w' => e = .returned (.tuple #[.slice none 0 0, .int .i64 2]) ∧ w = w' := by
  go_enter Try.func10, Try.ntmps10
  go_wp2_with fail
  refine (wordCheck_no s hs _).mono ?_
  rintro e w1 ⟨rfl, rfl⟩
  go_wp2
  go_ret2
  exact ⟨rfl, rfl⟩
end Go.Proofs.Ytkbogiijbmjbmaa
