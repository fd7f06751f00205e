/- MirrorArms' walk: each returned length belongs to a palindrome that cannot be extended, and reversal reverses the list. -/
import Derived.Test.YtndnglaohjbapaaArms
import Derived.Test.YtndnglaohjbapaaEqual
import Derived.Test.YtndnglaohjbapaaBack
import Derived.Test.YtndnglaohjbapaaKeep
import Derived.Test.YtndnglaohjbapaaRegion
namespace Go.Proofs.Ytndnglaohjbapaa
open Go.RowKit
set_option linter.unusedVariables false

theorem IntsAt.reads {w : World} {g n : Nat} {l : List Int} (h : IntsAt w g l) (hl : l.length = n) : Reads w w.heap.size (some ⟨g, 0, none⟩) n 1 (l.flatMap cInt) := by
  refine ⟨by rw [flat_length cInt 1 cInt_len, hl], fun _ => ⟨g, 0, rfl, h.1, fun j hj => ?_⟩⟩
  rw [flat_length cInt 1 cInt_len, Nat.mul_one] at hj
  have := flat_getD cInt 1 cInt_len 0 l j 0 hj (by omega)
  rw [Nat.mul_one, Nat.add_zero] at this
  rw [Nat.zero_add, this]
  exact (h.2 j hj).1

theorem arms_aba (l : List Int) (hl : l.length = 7) (h : ∀ j, j < 7 → ∃ n : Nat, l.getD j 0 = n ∧ IsArm [97, 98, 97] j n) : l = [0, 1, 0, 3, 0, 1, 0] := by
  have key : ∀ j n : Nat, j < 7 → IsArm [97, 98, 97] j n → l.getD j 0 = n := fun j n hj hn => by
    obtain ⟨m, h1, h2⟩ := h j hj
    rw [h1, isArm_unique h2 hn]
  refine ext_getD _ _ 0 hl fun j hj => ?_
  rw [hl] at hj
  have h0 := key 0 0 (by omega) (by decide)
  have h1 := key 1 1 (by omega) (by decide)
  have h2 := key 2 0 (by omega) (by decide)
  have h3 := key 3 3 (by omega) (by decide)
  have h4 := key 4 0 (by omega) (by decide)
  have h5 := key 5 1 (by omega) (by decide)
  have h6 := key 6 0 (by omega) (by decide)
  match j, hj with
  | 0, _ => exact h0
  | 1, _ => exact h1
  | 2, _ => exact h2
  | 3, _ => exact h3
  | 4, _ => exact h4
  | 5, _ => exact h5
  | 6, _ => exact h6

set_option maxRecDepth 100000 in
set_option maxHeartbeats 2000000 in
theorem mirrorArms_walk (s : ByteArray) (k0 : Int) (hs : s.size ≤ 140737488351232) (hk0 : (Lit.int .i64 k0).wf = true) (w : World) :
    Calls Try.prog 10 #[.string s, .int .i64 k0] w fun e w' => e = .returned (.bool true) ∧ Below w.heap.size w w' := by
  have c1 : ∀ w, Calls Try.prog 29 #[.string ⟨#[97, 98, 97]⟩] w fun e w' => ∃ g, e = .returned (.tuple #[.slice (some ⟨g, 0, none⟩) 7 7, .int .i64 0]) ∧ IntsAt w' g [0, 1, 0, 3, 0, 1, 0] ∧ Below w.heap.size w w' := fun w =>
    (arms_ok ⟨#[97, 98, 97]⟩ (by decide) w).mono fun e w' ⟨g, l, he, hl, hat, hv, hb⟩ => by
      have := arms_aba l hl hv
      subst this
      exact ⟨g, he, hat, hb⟩
  have C1 := Lib.hid c1
  clear c1
  go_enter Try.func10, Try.ntmps10
  go_wp2_with fail
  refine (C1.out _).mono ?_
  rintro e w1 ⟨g1, rfl, hat1, hb1⟩
  go_wp2_with fail
  refine (equalInt_any _ _ 7 7 7 7 _ _ [0, 1, 0, 3, 0, 1, 0] [0, 1, 0, 3, 0, 1, 0] _ (by decide) (by decide) rfl rfl ((hat1.reads rfl).alloc (Nat.le_refl _) _) (Reads.of_fresh w1 #[.int .i64 0, .int .i64 1, .int .i64 0, .int .i64 3, .int .i64 0, .int .i64 1, .int .i64 0] _ 7 1 rfl)).mono ?_
  rintro e w2 ⟨rfl, hb2⟩
  have hbw2 : Below w.heap.size w w2 := (hb1.alloc hb1.size _).trans (hb2.mono (by have := hb1.size; simp; omega))
  clear hb1 hb2 hat1 C1
  have q0 : decide (([0, 1, 0, 3, 0, 1, 0] : List Int) = [0, 1, 0, 3, 0, 1, 0]) = true := by decide
  have hbs : (ByteArray.mk s.data.toList.reverse.toArray).size = s.size := by show s.data.toList.reverse.length = s.size; rw [List.length_reverse]; rfl
  by_cases hsz : s.size ≤ 200
  · go_wp2_with fail
    refine (arms_ok s hsz _).mono ?_
    rintro e w3 ⟨g3, l, rfl, hl, hat3, hv3, hb3⟩
    go_wp2_with fail
    refine (back_any s (by omega) _).mono ?_
    rintro e w4 ⟨rfl, hb4⟩
    have hat4 := hat3.below hb4 hat3.1
    have harms := arms_ok ⟨s.data.toList.reverse.toArray⟩ (by rw [hbs]; exact hsz)
    rw [hbs] at harms
    have Harms := Lib.hid harms
    have Hbs := Lib.hid hbs
    clear harms hbs
    go_wp2_with fail
    refine (Harms.out _).mono ?_
    rintro e w5 ⟨g5, m, rfl, hm, hat5, hv5, hb5⟩
    have hat6 := hat4.below hb5 hat4.1
    have hbw5 := chain hb5 (chain hb4 (chain hb3 hbw2))
    clear hat3 hat4 hb3 hb4 hb5 hbw2 Harms
    have Hl := Lib.hid hl
    have Hm := Lib.hid hm
    clear hl hm
    obtain ⟨k, hk, hkl⟩ : ∃ k : Nat, k0 % (2 * (s.size : Int) + 1) = k ∧ k < 2 * s.size + 1 := by
      have h1 := Int.emod_nonneg k0 (show (2 * (s.size : Int) + 1) ≠ 0 by omega)
      have h2 := Int.emod_lt_of_pos k0 (show 0 < (2 * (s.size : Int) + 1) by omega)
      exact ⟨(k0 % (2 * (s.size : Int) + 1)).toNat, by omega, by omega⟩
    have hw1 : ∀ w, Calls Try.prog 19 #[.int .i64 k0, .int .i64 (2 * (s.size : Int) + 1)] w fun e w' => e = .returned (.int .i64 (k : Int)) ∧ w = w' := fun w => by
      have := within_any k0 (2 * (s.size : Int) + 1) (by omega) (by omega) w
      rwa [hk] at this
    have Hw1 := Lib.hid hw1
    clear hw1 hk
    obtain ⟨n, hn, hna⟩ := hv3 k hkl
    obtain ⟨n', hn', hna'⟩ := hv5 (2 * s.size - k) (by omega)
    have hrv : IsArm s.data.toList.reverse (2 * s.size - k) n := isArm_reverse (s := s.data.toList) (show k ≤ 2 * s.size by omega) hna
    have hnn : n' = n := isArm_unique hna' hrv
    subst hnn
    have hc1 := (hat6.2 k (by rw [Hl.out]; exact hkl)).1
    have hc2 := (hat5.2 (2 * s.size - k) (by rw [Hm.out]; omega)).1
    rw [hn] at hc1
    rw [hn'] at hc2
    obtain ⟨hn1, hn2⟩ := isArm_bd hna
    have hn2 : k + n' ≤ 2 * s.size := hn2
    have hpar := isArm_parity hna
    have hpal := isArm_pal hna
    have hmax := isArm_max hna
    obtain ⟨a, ha⟩ : ∃ a, k = n' + 2 * a := ⟨(k - n') / 2, by omega⟩
    have ea : (k - n') / 2 = a := by omega
    have eb : (k + n') / 2 = a + n' := by omega
    rw [ea, eb, Nat.add_sub_cancel_left] at hpal
    rw [ea, eb] at hmax
    have hmax : 1 ≤ a → a + n' < s.size → s.data.toList.getD (a - 1) 0 ≠ s.data.toList.getD (a + n') 0 := hmax
    obtain ⟨b, hb⟩ : ∃ b, b = a + n' := ⟨_, rfl⟩
    have i2 : ((k : Int) + (n' : Int)) / 2 = (b : Int) := by omega
    have i3 : 2 * (s.size : Int) - (k : Int) = ((2 * s.size - k : Nat) : Int) := by omega
    have hab : b ≤ s.size := by omega
    have hab2 : a ≤ b := by omega
    rw [← hb] at hmax
    have htd : (s.extract a b).data.toList = (s.data.toList.drop a).take n' := by rw [Lib.extract_data, hb, Nat.add_sub_cancel_left]
    have htb : ByteArray.mk (s.extract a b).data.toList.reverse.toArray = s.extract a b := ba_ext (by
      show (s.extract a b).data.toList.reverse = _
      rw [htd, hpal])
    have hback : ∀ w, Calls Try.prog 23 #[.string (s.extract a b)] w fun e w' => e = .returned (.string (s.extract a b)) ∧ Below w.heap.size w w' := fun w => by
      have := back_any (s.extract a b) (by simp; omega) w
      rwa [htb] at this
    have Hback := Lib.hid hback
    have hai : ((k : Int) - (n' : Int)) / 2 = (a : Int) := by omega
    have q1 : ((n' : Int) != (n' : Int)) = false := by simp
    have q2 : decide ((k : Int) < (n' : Int)) = false := decide_eq_false (by omega)
    have q2' : decide (k < n') = false := decide_eq_false (by omega)
    have q3 : decide (2 * (s.size : Int) - (k : Int) < (n' : Int)) = false := decide_eq_false (by omega)
    have q3' : decide (2 * s.size - k < n') = false := decide_eq_false (by omega)
    have q4 : (((n' : Int) + (k : Int)) % 2 != 0) = false := by rw [bne_eq_false_iff_eq]; omega
    have q5 : decide ((n' : Int) < 0) = false := decide_eq_false (by omega)
    clear hback htb htd hv3 hv5 hna hna' hrv hn hn' ea eb hpal
    have Hmax := Lib.hid hmax
    have Hk := Lib.hid ha
    have Hb := Lib.hid hb
    have Hai := Lib.hid hai
    clear hmax ha hb hai hpar
    rcases Nat.eq_zero_or_pos a with ha0 | ha0
    · subst ha0
      have i1 : ((k : Int) - (n' : Int)) / 2 = 0 := Hai.out
      have j1 : decide ((-1 : Int) < 0) = true := by decide
      have j2 : decide ((0 : Int) - 1 < 0) = true := by decide
      go_wp2_with fail
      refine (Hw1.out _).mono ?_
      rintro e w6 ⟨rfl, rfl⟩
      go_wp2_with fail
      generalize s.extract 0 b = t at *
      have q6 : (t.toList == t.toList) = true := by simp
      refine wp_region_later (by kernel_rfl) (by kernel_rfl) ?_
      go_big_quiet_step (fail)
      go_big_quiet_want
      go_big_quiet_op
      apply Exists.intro
      refine ⟨fun _ => ?_, ?_⟩
      · exact later_of (Hback.out _)
      go_big_quiet_on
      go_big_quiet_step (fail)
      quiet_step (exact rfl)
      repeat (first | go_big_quiet_step (fail) | quiet_step (exact rfl))
      refine wpQuiet_nil ?_
      rintro _ ⟨x, rfl⟩; have hb6 := x.below; change Below _ _ (World.later _ x) at hb6; generalize World.later _ x = w6 at hb6 ⊢

      go_wp2
      go_ret
      exact ⟨by simp, chain hb6 hbw5⟩
    · obtain ⟨a', rfl⟩ : ∃ a', a = a' + 1 := ⟨a - 1, by omega⟩
      have i1 : ((k : Int) - (n' : Int)) / 2 = (a' : Int) + 1 := by have := Hai.out; omega
      have j3 : decide ((a' : Int) < 0) = false := decide_eq_false (by omega)
      by_cases hto : b < s.size
      · have q7 : decide ((s.size : Int) ≤ (b : Int)) = false := decide_eq_false (by omega)
        have q7' : decide (s.size ≤ b) = false := decide_eq_false (by omega)
        have hne := Hmax.out (by omega) hto
        have ha' : a' < s.size := by omega
        rw [Nat.add_sub_cancel, getD_bytes s a' ha', getD_bytes s _ hto] at hne
        have q8 : ((s[a'].toNat : Int) != (s[b].toNat : Int)) = true := by rw [bne_iff_ne]; intro h; exact hne (UInt8.toNat_inj.1 (by omega))
        clear hne
        go_wp2_with fail
        refine (Hw1.out _).mono ?_
        rintro e w6 ⟨rfl, rfl⟩
        go_wp2_with fail
        generalize s.extract (a' + 1) b = t at *
        have q6 : (t.toList == t.toList) = true := by simp
        refine wp_region_later (by kernel_rfl) (by kernel_rfl) ?_
        go_big_quiet_step (fail)
        go_big_quiet_want
        go_big_quiet_op
        apply Exists.intro
        refine ⟨fun _ => ?_, ?_⟩
        · exact later_of (Hback.out _)
        go_big_quiet_on
        go_big_quiet_step (fail)
        quiet_step (exact rfl)
        repeat (first | go_big_quiet_step (fail) | quiet_step (exact rfl))
        refine wpQuiet_nil ?_
        rintro _ ⟨x, rfl⟩; have hb6 := x.below; change Below _ _ (World.later _ x) at hb6; generalize World.later _ x = w6 at hb6 ⊢

        go_wp2
        go_ret
        exact ⟨by simp, chain hb6 hbw5⟩
      · have q7 : decide ((s.size : Int) ≤ (b : Int)) = true := decide_eq_true (by omega)
        have q7' : decide (s.size ≤ b) = true := decide_eq_true (by omega)
        go_wp2_with fail
        refine (Hw1.out _).mono ?_
        rintro e w6 ⟨rfl, rfl⟩
        go_wp2_with fail
        generalize s.extract (a' + 1) b = t at *
        have q6 : (t.toList == t.toList) = true := by simp
        refine wp_region_later (by kernel_rfl) (by kernel_rfl) ?_
        go_big_quiet_step (fail)
        go_big_quiet_want
        go_big_quiet_op
        apply Exists.intro
        refine ⟨fun _ => ?_, ?_⟩
        · exact later_of (Hback.out _)
        go_big_quiet_on
        go_big_quiet_step (fail)
        quiet_step (exact rfl)
        repeat (first | go_big_quiet_step (fail) | quiet_step (exact rfl))
        refine wpQuiet_nil ?_
        rintro _ ⟨x, rfl⟩; have hb6 := x.below; change Below _ _ (World.later _ x) at hb6; generalize World.later _ x = w6 at hb6 ⊢

        go_wp2
        go_ret
        exact ⟨by simp, chain hb6 hbw5⟩
  · go_wp2_with fail
    refine (arms_no s (by omega) _).mono ?_
    rintro e w3 ⟨rfl, rfl⟩
    go_wp2_with fail
    refine (back_any s (by omega) _).mono ?_
    rintro e w4 ⟨rfl, hb4⟩
    have hno := arms_no ⟨s.data.toList.reverse.toArray⟩ (by rw [hbs]; omega)
    have Hno := Lib.hid hno
    clear hno hbs
    go_wp2_with fail
    refine (Hno.out _).mono ?_
    rintro e w5 ⟨rfl, rfl⟩
    go_wp2
    go_ret
    exact ⟨rfl, chain hb4 hbw2⟩

end Go.Proofs.Ytndnglaohjbapaa
