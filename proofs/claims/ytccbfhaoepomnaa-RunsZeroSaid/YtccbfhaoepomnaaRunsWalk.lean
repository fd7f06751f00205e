/- The walks of front.Runs and front.Whole. -/
import Derived.Test.YtccbfhaoepomnaaRuns
import Derived.Test.YtccbfhaoepomnaaCheck
import Derived.Test.YtccbfhaoepomnaaStruct
import Derived.Deep.QuietTactic
import Derived.BigQuiet
import Derived.Deep.DeepMust
namespace Go.Proofs.Ytccbfhaoepomnaa
open Go.RowKit
set_option linter.unusedVariables false

theorem infoRun : (Try.prog.info? 43).map (fun i => (i.zero, i.size, i.bytes)) = some (some (.agg #[.int .u8 0, .int .i64 0]), 2, 16) := by kernel_rfl

set_option maxHeartbeats 1000000 in
theorem runs_ok (s : ByteArray) (hs : s.size ≤ 200) (w : World) :
    Calls Try.prog 24 #[.string s] w fun e w' => ∃ A c, e = .returned (.tuple #[.slice A (runsOf s.data.toList).length c, .int .i64 0]) ∧
      Reads w' w'.heap.size A (runsOf s.data.toList).length 2 ((runsOf s.data.toList).flatMap cRun) ∧ Below w.heap.size w w' := by
  have hcv := fun w s => run_bytes_of_string (P := Try.prog) w 9 27 5 s Try.underlying9 Try.underlying27 Try.underlying5
  have hbd := buildRun
  obtain ⟨i0, hi, hz0, hz1, hz2⟩ := info_parts infoRun
  go_enter Try.func24, Try.ntmps24
  go_wp2_with fail
  refine (wordCheck_ok s hs _).mono ?_
  rintro e w1 ⟨rfl, rfl⟩
  go_wp2
  generalize hW : World.drew _ = W
  obtain ⟨hb0, hz0', hat0⟩ := bytes_at s _ (grownCap_ge _ _ _ _) _ _ _ hW
  clear hW
  generalize grownCap _ _ _ _ = cap
  have hg : w.heap.size < W.heap.size := by omega
  have hg1 := Nat.le_refl w.heap.size
  generalize hgg : w.heap.size = g at hg hg1 hat0 hb0 ⊢
  generalize hB : W.heap.size = B at hg
  have hgB : g < B := hg
  have hB0 : B ≤ W.heap.size := by omega
  have Hgg := Lib.hid hgg
  clear hz0' hgg hB
  go_loopw [5, 17] (fun v i wr => ∃ (k : Nat) (A : Option Addr) (c : Nat), k ≤ s.size ∧ i = .int .i64 k ∧ v = .slice A (runsOf (s.data.toList.take k)).length c ∧
      wr.ownsRow B 43 2 (.slice A (runsOf (s.data.toList.take k)).length c) (runsOf (s.data.toList.take k)).length ((runsOf (s.data.toList.take k)).flatMap cRun) ∧ Below B W wr)
    (fun _ i _ => s.size - (intOf i).toNat)
  case atStart => exact ⟨0, none, 0, Nat.zero_le _, rfl, by simp [runsOf], by simpa [runsOf] using World.ownsRow_nil _ _ _ _, Below.refl _ _⟩
  case round =>
    obtain ⟨k, A, c, hk, rfl, rfl, hown, hbr⟩ := hrel
    by_cases hlt : k < s.size
    · have hck := (hat0.below hbr hgB).2 k hlt
      rw [getD_bytes s k hlt] at hck
      have hck := hck.1
      have hRl := runs_length (s.data.toList.take k)
      have hRx := congrArg List.length (runs_expand (s.data.toList.take k))
      have hRv := runs_valid (s.data.toList.take k)
      rw [List.length_take, Nat.min_eq_left (by exact hk)] at hRl hRx
      have hnext : runsOf (s.data.toList.take (k + 1)) = addRun (runsOf (s.data.toList.take k)) s[k] := by rw [take_succ_bytes s k hlt, runsOf_snoc]
      have Hnext := Lib.hid hnext
      clear hnext
      generalize hR : runsOf (s.data.toList.take k) = R at *
      have HR := Lib.hid hR
      clear hR
      generalize hcc : s[k] = ch at *
      have Hcc := Lib.hid hcc
      clear hcc
      have happ : addRun R ch = R ++ [(ch, 1)] → Code.wp Try.prog Code.skip (fun _ _ _ => True) ⟨#[], []⟩ wr → True := fun _ _ => trivial
      clear happ
      rcases Nat.eq_zero_or_pos R.length with hl0 | hl0
      · have hRn : R = [] := List.eq_nil_of_length_eq_zero hl0
        subst hRn
        have hnx := addRun_none ch
        have Hnx := Lib.hid hnx
        clear hnx hl0 hRv hRx hRl
        simp only [List.length_nil, List.flatMap_nil] at hown
        go_wp2_with (first | (at_builtin; go_must (refine wpList_append_new wr 39 (.tmp 44) (.tmp 47) rfl rfl B 43 infoRun Try.underlying39 rfl (by decide) _ _ _ _ rfl hown #[.int .u8 (ch.toNat : Int), .int .i64 1] 1 rfl rfl (by simp [Value.oneCell']) (by decide) (by decide) (by have := hbr.size; omega) ?_); intro A1 c1 w1 hown1 hb1 hg1))
        go_roundw
        case rel =>
          have e : runsOf (s.data.toList.take (k + 1)) = [(ch, 1)] := by rw [Hnext.out, Hnx.out]
          exact ⟨k + 1, A1, c1, by omega, by go_num, by rw [e]; rfl, by rw [e]; exact hown1, hbr.trans hb1⟩
        case measure => simp [intOf]; omega
      · obtain ⟨m, hm⟩ : ∃ m, R.length = m + 1 := ⟨R.length - 1, by omega⟩
        have hcnt := count_le R m (by omega)
        rw [hRx] at hcnt
        have hcnt1 := (hRv m (by omega)).1
        have hfl := flat_length cRun 2 cRun_len R
        obtain ⟨A0, c0, hA0, hA1⟩ := own_shape hown
        obtain ⟨g2, hg2, hBg⟩ := hA1 hl0
        injection hA0 with e1 _ e2
        subst e1 e2 hg2
        have hx0 := (hown.cellAt (m * 2) (by omega)).trans (getElem?_of_getD _ undef _ (by rw [hfl]; omega))
        have hx1 := (hown.cellAt (m * 2 + 1) (by omega)).trans (getElem?_of_getD _ undef _ (by rw [hfl]; omega))
        have hfz := hown.frozenAt (m * 2 + 1)
        rw [show m * 2 = m * 2 + 0 from rfl, flat_getD cRun 2 cRun_len (0, 0) R m 0 (by omega) (by omega)] at hx0
        rw [flat_getD cRun 2 cRun_len (0, 0) R m 1 (by omega) (by omega)] at hx1
        simp only [cRun, List.getD_cons_zero, List.getD_cons_succ, Nat.add_zero] at hx0 hx1
        have hhit := addRun_hit (c := ch) hm
        have hmiss := addRun_miss (c := ch) hm
        have Hhit := Lib.hid hhit
        have Hmiss := Lib.hid hmiss
        have hRg : R[m]? = some (R.getD m (0, 0)) := getElem?_of_getD R (0, 0) m (by omega)
        have HRg := Lib.hid hRg
        clear hhit hmiss hRv hRx hRg hfl hl0
        generalize hel : R.getD m (0, 0) = el at *
        have Hel := Lib.hid hel
        clear hel
        obtain ⟨b, n⟩ := el
        simp only at hx0 hx1 hcnt hcnt1
        rw [hm] at hown ⊢
        have hmk : m + 1 ≤ k := by omega
        have Hm := Lib.hid hm
        clear hm
        by_cases hbc : b = ch
        · subst hbc
          have q1 : decide ((0 : Int) < (m : Int) + 1) = true := decide_eq_true (by omega)
          have q2 : ((b.toNat : Int) == (b.toNat : Int)) = true := by simp
          go_wp2
          go_roundw
          case rel =>
            have e : runsOf (s.data.toList.take (k + 1)) = R.set m (b, n + 1) := by
              have h2 : addRun R b = R.set m (b, n + 1) := Hhit.out rfl
              rw [Hnext.out, h2]
            refine ⟨k + 1, some ⟨g2, 0, none⟩, c, by omega, by go_num, by rw [e, List.length_set, Hm.out], ?_, hbr.setCell hBg _⟩
            rw [e, List.length_set, Hm.out, flat_set cRun 2 cRun_len R m 1 (b, n) (b, n + 1) (.int .i64 (n + 1)) HRg.out (by omega) rfl]
            exact (hown.stored (m * 2 + 1) _).1
          case measure => simp [intOf]; omega
        · have q1 : decide ((0 : Int) < (m : Int) + 1) = true := decide_eq_true (by omega)
          have q2 : ((b.toNat : Int) == (ch.toNat : Int)) = false := by rw [beq_eq_false_iff_ne]; intro h; exact hbc (UInt8.toNat_inj.1 (by omega))
          go_wp2_with (first | (at_builtin; go_must (refine wpList_append_new wr 39 (.tmp 44) (.tmp 47) rfl rfl B 43 infoRun Try.underlying39 rfl (by decide) _ _ _ _ rfl hown #[.int .u8 (ch.toNat : Int), .int .i64 1] 1 rfl rfl (by simp [Value.oneCell']) (by unfold maxLen; omega) (by omega) (by have := hbr.size; omega) ?_); intro A1 c1 w1 hown1 hb1 hg1))
          go_roundw
          case rel =>
            have e : runsOf (s.data.toList.take (k + 1)) = R ++ [(ch, 1)] := by rw [Hnext.out, Hmiss.out hbc]
            refine ⟨k + 1, A1, c1, by omega, by go_num, by rw [e, List.length_append, Hm.out]; rfl, ?_, hbr.trans hb1⟩
            rw [e, List.length_append, Hm.out, flat_snoc]
            exact hown1
          case measure => simp [intOf]; omega
    · obtain rfl : k = s.size := by omega
      have e : s.data.toList.take s.size = s.data.toList := List.take_of_length_le (Nat.le_refl _)
      rw [e] at hown ⊢
      go_wp2
      go_ret2
      exact ⟨A, c, rfl, Reads.of_own hown, by rw [Hgg.out]; exact hb0.trans (hbr.mono (by omega))⟩

set_option maxHeartbeats 400000 in
theorem runs_no (s : ByteArray) (hs : 200 < s.size) (w : World) :
    Calls Try.prog 24 #[.string s] w fun e w' => e = .returned (.tuple #[.slice none 0 0, .int .i64 2]) ∧ w = w' := by
  go_enter Try.func24, Try.ntmps24
  go_wp2_with fail
  refine (wordCheck_no s hs _).mono ?_
  rintro e w1 ⟨rfl, rfl⟩
  go_wp2
  go_ret2
  exact ⟨rfl, rfl⟩

theorem infoByte : (Try.prog.info? 5).map (fun i => (i.zero, i.size, i.bytes)) = some (some (.int .u8 0), 1, 1) := by kernel_rfl

/-- Where Whole stops: an error. -/
def WholeNo (l : List (UInt8 × Int)) : Prop := ¬ WholeOk l


end Go.Proofs.Ytccbfhaoepomnaa
