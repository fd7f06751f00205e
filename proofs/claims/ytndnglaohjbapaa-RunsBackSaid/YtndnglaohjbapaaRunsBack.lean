/- RunsBack's walk: run-length encoding and decoding are inverse, and the runs contain all bytes. -/
import Derived.Test.YtndnglaohjbapaaRunsWalk
import Derived.Test.YtndnglaohjbapaaEqual
import Derived.Test.YtndnglaohjbapaaArgs
namespace Go.Proofs.Ytndnglaohjbapaa
open Go.RowKit
set_option linter.unusedVariables false

theorem runs_aab : runsOf (ByteArray.mk #[97, 97, 98]).data.toList = [(97, 2), (98, 1)] := by decide +kernel

set_option maxHeartbeats 1000000 in
theorem runsBack_walk (s : ByteArray) (A : Option Addr) (len cap : Nat) (l : List (UInt8 × Int)) (hs : s.size ≤ 140737488351232) (w : World) (hl : RunsIn w A len cap l) :
    Calls Try.prog 12 #[.string s, .slice A len cap] w fun e w' => e = .returned (.bool true) ∧ Below w.heap.size w w' := by
  obtain ⟨hll, hrd, hlen, _⟩ := hl
  have Hll := Lib.hid hll
  clear hll
  have c1 : ∀ w, Calls Try.prog 33 #[.string ⟨#[97, 97, 98]⟩] w fun e w' => ∃ A c, e = .returned (.tuple #[.slice A 2 c, .int .i64 0]) ∧ Reads w' w'.heap.size A 2 2 [.int .u8 97, .int .i64 2, .int .u8 98, .int .i64 1] ∧ Below w.heap.size w w' := fun w =>
    (runs_ok ⟨#[97, 97, 98]⟩ (by decide) w).mono fun e w' ⟨A, c, he, hr, hb⟩ => by
      rw [runs_aab] at he hr
      exact ⟨A, c, he, hr, hb⟩
  have C1 := Lib.hid c1
  clear c1
  have hbd := buildRun
  go_enter Try.func12, Try.ntmps12
  go_wp2_with fail
  refine (C1.out _).mono ?_
  rintro e w1 ⟨A1, c1, rfl, hr1, hb1⟩
  go_wp2_with fail
  refine (equalRun_any A1 _ 2 2 c1 2 _ _ [(97, 2), (98, 1)] [(97, 2), (98, 1)] _ (by decide) (by decide) rfl rfl (hr1.alloc (Nat.le_refl _) _) (Reads.of_fresh w1 #[.int .u8 97, .int .i64 2, .int .u8 98, .int .i64 1] _ 2 2 rfl)).mono ?_
  rintro e w2 ⟨rfl, hb2⟩
  have hbw2 : Below w.heap.size w w2 := (hb1.alloc hb1.size _).trans (hb2.mono (by have := hb1.size; simp; omega))
  have hrd2 := hrd.below hbw2
  have hsz2 := hbw2.size
  clear hb1 hb2 hr1 hrd
  have q0 : decide (([(97, 2), (98, 1)] : List (UInt8 × Int)) = [(97, 2), (98, 1)]) = true := by decide
  by_cases hsz : s.size ≤ 200
  · go_wp2_with fail
    refine (runs_ok s hsz _).mono ?_
    rintro e w3 ⟨A2, c2, rfl, hr2, hb3⟩
    have hww := wholeOk_runs s.data.toList hsz
    have hexp := runs_expand s.data.toList
    have hlr := runs_length s.data.toList
    have hls : s.data.toList.length = s.size := rfl
    have Hexp := Lib.hid hexp
    clear hexp
    generalize runsOf s.data.toList = m at *
    go_wp2_with fail
    refine (whole_any A2 m.length c2 _ m _ (by omega) rfl hr2 (Nat.le_refl _)).mono ?_
    rintro e w4 ⟨hb4, ⟨hok, rfl⟩ | ⟨hno, _⟩⟩
    case inr => exact absurd hww hno
    have hbw4 := chain hb4 (chain hb3 hbw2)
    have hrd4 := hrd2.below ((hb3.mono hsz2).trans (hb4.mono (Nat.le_trans hsz2 hb3.size)))
    have hsz4 := hbw4.size
    have q6 : ((expand m) == s.toList) = true := by rw [Hexp.out, ByteArray.toList_eq]; simp
    clear hb3 hb4 hrd2 hbw2 hr2
    go_wp2_with fail
    refine (whole_any A len cap w.heap.size l _ (by omega) Hll.out hrd4 hsz4).mono ?_
    rintro e w5 ⟨hbx, ⟨hok2, rfl⟩ | ⟨hno2, E, hE, rfl⟩⟩
    · have hsz2 := hok2.2
      have hback := expand_runs l hok2.1
      have hr3 : ∀ w, Calls Try.prog 33 #[.string ⟨(expand l).toArray⟩] w fun e w' => ∃ A c, e = .returned (.tuple #[.slice A l.length c, .int .i64 0]) ∧ Reads w' w'.heap.size A l.length 2 (l.flatMap cRun) ∧ Below w.heap.size w w' := fun w =>
        (runs_ok ⟨(expand l).toArray⟩ hsz2 w).mono fun e w' ⟨A, c, he, hr, hb⟩ => by
          have e2 : (ByteArray.mk (expand l).toArray).data.toList = expand l := rfl
          rw [e2, hback] at he hr
          exact ⟨A, c, he, hr, hb⟩
      have Hr3 := Lib.hid hr3
      have Hsz2 := Lib.hid hsz2
      clear hr3 hback hsz2
      go_wp2_with fail
      refine (Hr3.out _).mono ?_
      rintro e w6 ⟨A3, c3, rfl, hr3, hb6⟩
      go_wp2_with fail
      refine (equalRun_any A3 A l.length len c3 cap _ _ l l _ (by rw [Hll.out]; omega) (by omega) rfl Hll.out hr3 ((hrd4.below' hbx hsz4).below' hb6 (Nat.le_trans hsz4 hbx.size))).mono ?_
      rintro e w7 ⟨rfl, hb7⟩
      go_wp2
      go_ret
      exact ⟨rfl, chain hb7 (chain hb6 (chain hbx hbw4))⟩
    · have q5 : (E != 0) = true := by simpa using hE
      go_wp2
      go_ret
      exact ⟨rfl, chain hbx hbw4⟩
  · go_wp2_with fail
    refine (runs_no s (by omega) _).mono ?_
    rintro e w3 ⟨rfl, rfl⟩
    go_wp2_with fail
    refine (whole_any none 0 0 w2.heap.size [] _ (by decide) rfl Reads.nil (Nat.le_refl _)).mono ?_
    rintro e w4 ⟨hb4, ⟨hok, rfl⟩ | ⟨hno, E4, hE4, rfl⟩⟩
    case inr => exact absurd ⟨fun j hj => by simp at hj, by simp [expand]⟩ hno
    have hbw4 := chain hb4 hbw2
    have hrd4 := hrd2.below (hb4.mono hsz2)
    have hsz4 := hbw4.size
    clear hb4 hrd2 hbw2
    go_wp2_with fail
    refine (whole_any A len cap w.heap.size l _ (by omega) Hll.out hrd4 hsz4).mono ?_
    rintro e w5 ⟨hbx, ⟨hok2, rfl⟩ | ⟨hno2, E, hE, rfl⟩⟩
    · have hsz2 := hok2.2
      have hback := expand_runs l hok2.1
      have hr3 : ∀ w, Calls Try.prog 33 #[.string ⟨(expand l).toArray⟩] w fun e w' => ∃ A c, e = .returned (.tuple #[.slice A l.length c, .int .i64 0]) ∧ Reads w' w'.heap.size A l.length 2 (l.flatMap cRun) ∧ Below w.heap.size w w' := fun w =>
        (runs_ok ⟨(expand l).toArray⟩ hsz2 w).mono fun e w' ⟨A, c, he, hr, hb⟩ => by
          have e2 : (ByteArray.mk (expand l).toArray).data.toList = expand l := rfl
          rw [e2, hback] at he hr
          exact ⟨A, c, he, hr, hb⟩
      have Hr3 := Lib.hid hr3
      have Hsz2 := Lib.hid hsz2
      clear hr3 hback hsz2
      go_wp2_with fail
      refine (Hr3.out _).mono ?_
      rintro e w6 ⟨A3, c3, rfl, hr3, hb6⟩
      go_wp2_with fail
      refine (equalRun_any A3 A l.length len c3 cap _ _ l l _ (by rw [Hll.out]; omega) (by omega) rfl Hll.out hr3 ((hrd4.below' hbx hsz4).below' hb6 (Nat.le_trans hsz4 hbx.size))).mono ?_
      rintro e w7 ⟨rfl, hb7⟩
      go_wp2
      go_ret
      exact ⟨rfl, chain hb7 (chain hb6 (chain hbx hbw4))⟩
    · have q5 : (E != 0) = true := by simpa using hE
      go_wp2
      go_ret
      exact ⟨rfl, chain hbx hbw4⟩

end Go.Proofs.Ytndnglaohjbapaa
