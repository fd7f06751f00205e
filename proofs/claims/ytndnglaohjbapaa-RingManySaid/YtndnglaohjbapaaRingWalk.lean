/- The walks of package ring: power, Check, Words, gcd, Rings. -/
import Derived.Test.YtndnglaohjbapaaLib
import Derived.Test.YtndnglaohjbapaaRows
import Derived.Test.YtndnglaohjbapaaRing
import Derived.Deep.QuietTactic
import Derived.BigQuiet
namespace Go.Proofs.Ytndnglaohjbapaa
open Go.RowKit
set_option linter.unusedVariables false

theorem pow_next {k j : Nat} (h : k ^ (j + 1) ≤ 512) : 0 ≤ ((k ^ j : Nat) : Int) * (k : Int) ∧ ((k ^ j : Nat) : Int) * (k : Int) ≤ 512 ∧ ((k ^ j : Nat) : Int) * (k : Int) = ((k ^ (j + 1) : Nat) : Int) := by
  have e : ((k ^ j : Nat) : Int) * (k : Int) = ((k ^ (j + 1) : Nat) : Int) := by rw [Nat.pow_succ, Int.natCast_mul]
  rw [e]; omega

set_option maxHeartbeats 400000 in
theorem power_yes (k n : Nat) (hk : 1 ≤ k) (hk8 : k ≤ 8) (hn : n ≤ 512) (hp : k ^ n ≤ 512) (w : World) :
    Calls Try.prog 43 #[.int .i64 k, .int .i64 n] w fun e w' => e = .returned (.tuple #[.int .i64 ((k ^ n : Nat) : Int), .bool true]) ∧ w = w' := by
  go_enter Try.func43, Try.ntmps43
  go_wp2
  go_loop [6, 8] (fun x i => ∃ j : Nat, j ≤ n ∧ i = .int .i64 j ∧ x = .int .i64 ((k ^ j : Nat) : Int)) (fun _ i => n - (intOf i).toNat)
  case atStart => exact ⟨0, by omega, rfl, by simp⟩
  case round =>
    obtain ⟨j, hj, rfl, rfl⟩ := hrel
    by_cases hlt : j < n
    · obtain ⟨h0, h1, h2⟩ := pow_next (Nat.le_trans (pow_le hk (show j + 1 ≤ n from hlt)) hp)
      have H2 := Lib.hid h2
      clear h2
      generalize hq : ((k ^ j : Nat) : Int) = q at *
      have Hq := Lib.hid hq
      clear hq
      go_wp2
      go_round
      case rel => exact ⟨j + 1, by omega, by go_num, by rw [H2.out]⟩
      case measure => simp [intOf]; omega
    · obtain rfl : j = n := by omega
      go_wp2
      go_ret2
      exact ⟨rfl, rfl⟩

set_option maxHeartbeats 400000 in
theorem power_no (k n : Nat) (hk : 1 ≤ k) (hk8 : k ≤ 8) (hn : n ≤ 512) (hp : ¬ k ^ n ≤ 512) (w : World) :
    Calls Try.prog 43 #[.int .i64 k, .int .i64 n] w fun e w' => e = .returned (.tuple #[.int .i64 0, .bool false]) ∧ w = w' := by
  go_enter Try.func43, Try.ntmps43
  go_wp2
  go_loop [6, 8] (fun x i => ∃ j : Nat, j ≤ n ∧ i = .int .i64 j ∧ k ^ j ≤ 512 ∧ x = .int .i64 ((k ^ j : Nat) : Int)) (fun _ i => n - (intOf i).toNat)
  case atStart => exact ⟨0, by omega, rfl, by simp, by simp⟩
  case round =>
    obtain ⟨j, hj, rfl, hle, rfl⟩ := hrel
    have hlt : j < n := by
      rcases Nat.lt_or_ge j n with h | h
      · exact h
      · obtain rfl : j = n := by omega
        exact absurd hle hp
    have e : ((k ^ j : Nat) : Int) * (k : Int) = ((k ^ (j + 1) : Nat) : Int) := by rw [Nat.pow_succ, Int.natCast_mul]
    have hb : k ^ (j + 1) ≤ 4096 := by rw [Nat.pow_succ]; exact Nat.le_trans (Nat.mul_le_mul hle hk8) (by decide)
    have hb1 : ((k ^ j : Nat) : Int) * (k : Int) ≤ 4096 := by rw [e]; omega
    have hb0 : 0 ≤ ((k ^ j : Nat) : Int) * (k : Int) := by rw [e]; omega
    by_cases hnx : k ^ (j + 1) ≤ 512
    · have h1 : ((k ^ j : Nat) : Int) * (k : Int) ≤ 512 := by rw [e]; omega
      have H2 := Lib.hid e
      have Hn := Lib.hid hnx
      clear e hb hle hnx hp
      generalize hq : ((k ^ j : Nat) : Int) = q at *
      have Hq := Lib.hid hq
      clear hq
      go_wp2
      go_round
      case rel => exact ⟨j + 1, by omega, by go_num, Hn.out, by rw [H2.out]⟩
      case measure => simp [intOf]; omega
    · have h1 : (512 : Int) < ((k ^ j : Nat) : Int) * (k : Int) := by rw [e]; omega
      clear e hb hle hnx hp
      generalize hq : ((k ^ j : Nat) : Int) = q at *
      have Hq := Lib.hid hq
      clear hq
      go_wp2
      go_ret2
      exact ⟨rfl, rfl⟩

set_option maxHeartbeats 400000 in
theorem ringCheck_ok (k n : Nat) (h : Fits k n) (w : World) :
    Calls Try.prog 42 #[.int .i64 k, .int .i64 n] w fun e w' => e = .returned (.int .i64 0) ∧ w = w' := by
  have hk1 : decide ((k : Int) < 1) = false := by have := h.k1; simp; omega
  have hk8 : decide ((8 : Int) < (k : Int)) = false := by have := h.k8; simp; omega
  have hn1 : decide ((n : Int) < 1) = false := by have := h.n1; simp; omega
  have hn5 : decide ((512 : Int) < (n : Int)) = false := by have := h.n512; simp; omega
  go_enter Try.func42, Try.ntmps42
  go_wp2_with fail
  refine (power_yes k n h.k1 h.k8 h.n512 h.pow _).mono ?_
  rintro e w1 ⟨rfl, rfl⟩
  go_wp2
  go_ret
  exact ⟨rfl, rfl⟩

set_option maxHeartbeats 400000 in
theorem ringCheck_large (k n : Nat) (h1 : 1 ≤ k) (h8 : k ≤ 8) (hn1 : 1 ≤ n) (hn5 : n ≤ 512) (hp : ¬ k ^ n ≤ 512) (w : World) :
    Calls Try.prog 42 #[.int .i64 k, .int .i64 n] w fun e w' => e = .returned (.int .i64 2) ∧ w = w' := by
  have hk1 : decide ((k : Int) < 1) = false := by simp; omega
  have hk8 : decide ((8 : Int) < (k : Int)) = false := by simp; omega
  have hn1' : decide ((n : Int) < 1) = false := by simp; omega
  have hn5' : decide ((512 : Int) < (n : Int)) = false := by simp; omega
  go_enter Try.func42, Try.ntmps42
  go_wp2_with fail
  refine (power_no k n h1 h8 hn5 hp _).mono ?_
  rintro e w1 ⟨rfl, rfl⟩
  go_wp2
  go_ret
  exact ⟨rfl, rfl⟩

set_option maxHeartbeats 400000 in
theorem ringCheck_arg (k n : Int) (h : k < 1 ∨ 8 < k ∨ n < 1 ∨ 512 < n) (w : World) :
    Calls Try.prog 42 #[.int .i64 k, .int .i64 n] w fun e w' => e = .returned (.int .i64 1) ∧ w = w' := by
  by_cases h1 : k < 1
  · have hk1 : decide (k < 1) = true := by simp; omega
    go_enter Try.func42, Try.ntmps42
    go_wp2
    go_ret
    exact ⟨rfl, rfl⟩
  have hk1 : decide (k < 1) = false := by simp; omega
  by_cases h2 : 8 < k
  · have hk8 : decide (8 < k) = true := by simp; omega
    go_enter Try.func42, Try.ntmps42
    go_wp2
    go_ret
    exact ⟨rfl, rfl⟩
  have hk8 : decide (8 < k) = false := by simp; omega
  by_cases h3 : n < 1
  · have hn1 : decide (n < 1) = true := by simp; omega
    go_enter Try.func42, Try.ntmps42
    go_wp2
    go_ret
    exact ⟨rfl, rfl⟩
  have hn1 : decide (n < 1) = false := by simp; omega
  have h4 : 512 < n := by omega
  have hn5 : decide (512 < n) = true := by simp; omega
  go_enter Try.func42, Try.ntmps42
  go_wp2
  go_ret
  exact ⟨rfl, rfl⟩

/-- Every pair of numbers either fits or is refused with an error. -/
theorem ringCheck_cases (k n : Int) : (∃ k' n' : Nat, k = k' ∧ n = n' ∧ Fits k' n') ∨
    ∃ E : Int, E ≠ 0 ∧ ∀ w : World, Calls Try.prog 42 #[.int .i64 k, .int .i64 n] w fun e w' => e = .returned (.int .i64 E) ∧ w = w' := by
  by_cases h : k < 1 ∨ 8 < k ∨ n < 1 ∨ 512 < n
  · exact .inr ⟨1, by decide, fun w => ringCheck_arg k n h w⟩
  · obtain ⟨k', rfl⟩ := Int.eq_ofNat_of_zero_le (show 0 ≤ k by omega)
    obtain ⟨n', rfl⟩ := Int.eq_ofNat_of_zero_le (show 0 ≤ n by omega)
    by_cases hp : k' ^ n' ≤ 512
    · exact .inl ⟨k', n', rfl, rfl, by omega, by omega, by omega, by omega, hp⟩
    · exact .inr ⟨2, by decide, fun w => ringCheck_large k' n' (by omega) (by omega) (by omega) (by omega) hp w⟩

set_option maxHeartbeats 400000 in
theorem ringWords_no (k n E : Int) (hE : E ≠ 0) (h : ∀ w : World, Calls Try.prog 42 #[.int .i64 k, .int .i64 n] w fun e w' => e = .returned (.int .i64 E) ∧ w = w') (w : World) :
    Calls Try.prog 20 #[.int .i64 k, .int .i64 n] w fun e w' => e = .returned (.tuple #[.int .i64 0, .int .i64 E]) ∧ w = w' := by
  have hE' : (E == 0) = false := by simpa using hE
  have hE2 : (E != 0) = true := by simpa using hE
  have H := Lib.hid h
  clear h
  go_enter Try.func20, Try.ntmps20
  go_wp2_with fail
  refine (H.out _).mono ?_
  rintro e w1 ⟨rfl, rfl⟩
  go_wp2
  go_ret2
  exact ⟨rfl, rfl⟩

theorem A.infoInt : (Try.prog.info? 3).map (fun i => (i.zero, i.size, i.bytes)) = some (some (.int .i64 0), 1, 8) := by kernel_rfl

theorem mod_cast2 (n j : Nat) : (n : Int) % ((j : Int) + 1) = ((n % (j + 1) : Nat) : Int) := by simp
theorem mod_cast1 (D j : Nat) : ((D : Int) + 1) % ((j : Int) + 1) = (((D + 1) % (j + 1) : Nat) : Int) := by simp

set_option maxHeartbeats 400000 in
theorem ringWords_ok (k n : Nat) (h : Fits k n) (w : World) :
    Calls Try.prog 20 #[.int .i64 k, .int .i64 n] w fun e w' => e = .returned (.tuple #[.int .i64 (wordsOf k n), .int .i64 0]) ∧ Below w.heap.size w w' := by
  have hn5 := h.n512
  have hmk := fun w : World => make_ints (P := Try.prog) 50 3 Try.underlying50 A.infoInt (n + 1) ((n : Int) + 1) (by omega) (by omega) w
  go_enter Try.func20, Try.ntmps20
  go_wp2_with fail
  refine (ringCheck_ok k n h _).mono ?_
  rintro e w1 ⟨rfl, rfl⟩
  go_wp2
  obtain ⟨hb0, hz0, hat0⟩ := ints_made w (n + 1) 3
  generalize hW : World.alloc _ _ = W at *
  clear hW hmk
  have hg := Nat.le_refl w.heap.size
  have hg2 : w.heap.size < W.heap.size := by omega
  generalize hgg : w.heap.size = g at hg hg2 hat0 ⊢
  have hlow : w.heap.size ≤ g := by omega
  clear hgg hz0 hg
  go_loopw [8] (fun d wr => ∃ (D : Nat) (l : List Int), D ≤ n ∧ d = .int .i64 ((D : Int) + 1) ∧ l.length = n + 1 ∧ IntsAt wr g l ∧ Below w.heap.size w wr ∧ ∀ j, j ≤ D → l.getD j 0 = wordsOf k j)
    (fun d _ => n + 1 - (intOf d).toNat)
  case atStart => exact ⟨0, List.replicate (n + 1) 0, Nat.zero_le _, rfl, by simp, hat0, hb0, fun j hj => by rw [show j = 0 from by omega]; simp [wordsOf, tbl]⟩
  case round =>
    obtain ⟨D, l, hD, rfl, hl, hat, hbr, hv⟩ := hrel
    have Hl := Lib.hid hl
    have Hv := Lib.hid hv
    clear hl hv
    by_cases hlt : D < n
    · have hf := h.less (show 1 ≤ D + 1 by omega) (show D + 1 ≤ n by omega)
      go_wp2_with fail
      refine (power_yes k (D + 1) h.k1 h.k8 (by omega) hf.pow _).mono ?_
      rintro e w2 ⟨rfl, rfl⟩
      go_wp2_with fail
      go_loop [9, 11] (fun x c => ∃ j : Nat, j ≤ D ∧ c = .int .i64 ((j : Int) + 1) ∧ x = .int .i64 (xsub k (D + 1) (tbl k D) j)) (fun _ c => D + 1 - (intOf c).toNat)
      case atStart => exact ⟨0, by omega, by go_num, by simp [xsub]⟩
      case round =>
        obtain ⟨j, hj, rfl, rfl⟩ := hrel
        have hx := xsub_bd h D j hlt hj
        by_cases hjl : j < D
        · have hx2 := xsub_bd h D (j + 1) hlt (by omega)
          have hwd := words_bd h (j + 1) (by omega)
          have hck := (hat.2 (j + 1) (by rw [Hl.out]; omega)).1
          rw [Hv.out (j + 1) (by omega)] at hck
          have htb := tbl_getD k D (j + 1) (by omega)
          by_cases hm : (D + 1) % (j + 1) = 0
          · have hm' : (((D : Int) + 1) % ((j : Int) + 1) == 0) = true := by rw [beq_iff_eq, mod_cast1, hm]; rfl
            have hs : xsub k (D + 1) (tbl k D) (j + 1) = xsub k (D + 1) (tbl k D) j - ((j : Int) + 1) * wordsOf k (j + 1) := by
              rw [xsub, if_pos hm, htb]; simp
            have hp0 : 0 ≤ ((j : Int) + 1) * wordsOf k (j + 1) := Int.mul_nonneg (by omega) hwd.1
            have hp1 : ((j : Int) + 1) * wordsOf k (j + 1) ≤ 512 := by rw [hs] at hx2; omega
            have hs0 : 0 ≤ xsub k (D + 1) (tbl k D) j - ((j : Int) + 1) * wordsOf k (j + 1) := by rw [← hs]; exact hx2.1
            have Hs := Lib.hid hs
            clear hs hm htb hx2
            generalize wordsOf k (j + 1) = v at *
            generalize hX : xsub k (D + 1) (tbl k D) j = X at *
            have HX := Lib.hid hX
            clear hX
            obtain ⟨hx1, hx3⟩ := hx
            go_wp2
            go_round
            case rel => exact ⟨j + 1, by omega, by go_num, by rw [Hs.out]⟩
            case measure => simp [intOf]; omega
          · have hm' : (((D : Int) + 1) % ((j : Int) + 1) == 0) = false := by rw [beq_eq_false_iff_ne, mod_cast1]; omega
            have hs : xsub k (D + 1) (tbl k D) (j + 1) = xsub k (D + 1) (tbl k D) j := by rw [xsub, if_neg hm]
            have Hs := Lib.hid hs
            clear hs hm htb hx2
            generalize hX : xsub k (D + 1) (tbl k D) j = X at *
            have HX := Lib.hid hX
            clear hX
            go_wp2
            go_round
            case rel => exact ⟨j + 1, by omega, by go_num, by rw [Hs.out]⟩
            case measure => simp [intOf]; omega
        · obtain rfl : j = D := by omega
          obtain ⟨hcc, hfc⟩ := hat.2 (j + 1) (by rw [Hl.out]; omega)
          have hws := wordsOf_succ k j
          generalize hX : xsub k (j + 1) (tbl k j) j = X at *
          have HX := Lib.hid hX
          have Hws := Lib.hid hws
          clear hX hws
          obtain ⟨hx1, hx3⟩ := hx
          go_wp2
          go_roundw
          case rel =>
            refine ⟨j + 1, l.set (j + 1) (wordsOf k (j + 1)), by omega, by go_num, by rw [List.length_set]; exact Hl.out, ?_, hbr.setCell hlow _, fun i hi => ?_⟩
            · rw [Hws.out]
              simp
              exact hat.set (j + 1) (by rw [Hl.out]; omega) _
            · rw [getD_set _ _ _ _ (by rw [Hl.out]; omega)]
              by_cases e : i = j + 1
              · rw [if_pos e, e]
              · rw [if_neg e]; exact Hv.out i (by omega)
          case measure => simp [intOf]; omega
    · obtain rfl : D = n := by omega
      have hcc := (hat.2 D (by rw [Hl.out]; omega)).1
      rw [Hv.out D (Nat.le_refl _)] at hcc
      go_wp2
      go_ret2
      exact ⟨rfl, hbr⟩

set_option maxHeartbeats 400000 in
theorem ringGcd_any (a b : Nat) (ha : a ≤ 512) (hb : b ≤ 512) (w : World) :
    Calls Try.prog 51 #[.int .i64 a, .int .i64 b] w fun e w' => e = .returned (.int .i64 (Nat.gcd a b : Nat)) ∧ Below w.heap.size w w' := by
  go_enter Try.func51, Try.ntmps51
  go_wp2
  go_loopw [0, 1] (fun x y wr => ∃ i j : Nat, i ≤ 512 ∧ j ≤ 512 ∧ x = .int .i64 i ∧ y = .int .i64 j ∧ Nat.gcd i j = Nat.gcd a b ∧ Below w.heap.size w wr) (fun _ y _ => (intOf y).toNat)
  case atStart => exact ⟨a, b, ha, hb, rfl, rfl, rfl, Below.refl _ _⟩
  case round =>
    obtain ⟨i, j, hi, hj, rfl, rfl, hg, hbr⟩ := hrel
    have Hg := Lib.hid hg
    clear hg
    by_cases h0 : 0 < j
    · have h0' : (0 : Int) < (j : Int) := by omega
      have hne : ¬ (j : Int) = 0 := by omega
      have hmod : (i : Int) % (j : Int) = ((i % j : Nat) : Int) := by simp
      have hml := Nat.mod_lt i h0
      have Hm := Lib.hid hmod
      clear hmod
      go_wp2
      go_quiet (fail)
      go_wp2
      go_roundw
      case rel => exact ⟨j, i % j, hj, by omega, rfl, by rw [Hm.out], by rw [← Hg.out, Nat.gcd_comm i j, Nat.gcd_rec j i, Nat.gcd_comm], below_drewN hbr _⟩
      case measure => simp only [intOf, Hm.out]; omega
    · obtain rfl : j = 0 := by omega
      go_wp2
      go_ret
      exact ⟨by rw [← Hg.out, Nat.gcd_zero_right]; rfl, hbr⟩

set_option maxHeartbeats 400000 in
theorem ringRings_ok (k n : Nat) (h : Fits k n) (w : World) :
    Calls Try.prog 37 #[.int .i64 k, .int .i64 n] w fun e w' => e = .returned (.tuple #[.int .i64 (ringsOf k n), .int .i64 0]) ∧ Below w.heap.size w w' := by
  have hn5 := h.n512
  have hn1 := h.n1
  go_enter Try.func37, Try.ntmps37
  go_wp2_with fail
  refine (ringCheck_ok k n h _).mono ?_
  rintro e w1 ⟨rfl, rfl⟩
  go_wp2
  go_loopw [7, 18] (fun x i wr => ∃ j : Nat, j ≤ n ∧ i = .int .i64 j ∧ x = .int .i64 (ringSum k n j) ∧ Below w.heap.size w wr) (fun _ i _ => n - (intOf i).toNat)
  case atStart => exact ⟨0, Nat.zero_le _, rfl, rfl, Below.refl _ _⟩
  case round =>
    obtain ⟨j, hj, rfl, rfl, hbr⟩ := hrel
    obtain ⟨hs0, hs1⟩ := ringSum_bd h j hj
    by_cases hlt : j < n
    · have hgn : Nat.gcd j n ≤ n := Nat.le_of_dvd hn1 (Nat.gcd_dvd_right j n)
      have hpw : k ^ (Nat.gcd j n) ≤ 512 := Nat.le_trans (pow_le h.k1 hgn) h.pow
      have hnext : ringSum k n (j + 1) = ringSum k n j + ((k ^ (Nat.gcd j n) : Nat) : Int) := rfl
      have Hnext := Lib.hid hnext
      clear hnext
      generalize hX : ringSum k n j = X at *
      have HX := Lib.hid hX
      clear hX
      go_wp2_with fail
      refine (ringGcd_any j n (by omega) (by omega) _).mono ?_
      rintro e w2 ⟨rfl, hb2⟩
      go_wp2_with fail
      refine (power_yes k (Nat.gcd j n) h.k1 h.k8 (by omega) hpw _).mono ?_
      rintro e w3 ⟨rfl, rfl⟩
      generalize hQ : ((k ^ (Nat.gcd j n) : Nat) : Int) = Q at *
      have hQ0 : 0 ≤ Q := by omega
      have hQ1 : Q ≤ 512 := by omega
      clear hpw
      have HQ := Lib.hid hQ
      clear hQ
      go_wp2
      go_roundw
      case rel => exact ⟨j + 1, by omega, by go_num, by rw [Hnext.out], chain hb2 hbr⟩
      case measure => simp [intOf]; omega
    · obtain rfl : j = n := by omega
      generalize hX : ringSum k j j = X at *
      have HX := Lib.hid hX
      clear hX
      have hj0 : (0 : Int) < (j : Int) := by omega
      have hj1 : ¬ (j : Int) = 0 := by omega
      go_wp2
      go_ret2
      refine ⟨?_, hbr⟩
      show Ending.returned (.tuple #[.int .i64 (X / (j : Int)), .int .i64 0]) = _
      rw [ringsOf, HX.out]

set_option maxHeartbeats 400000 in
theorem ringRings_no (k n E : Int) (hE : E ≠ 0) (h : ∀ w : World, Calls Try.prog 42 #[.int .i64 k, .int .i64 n] w fun e w' => e = .returned (.int .i64 E) ∧ w = w') (w : World) :
    Calls Try.prog 37 #[.int .i64 k, .int .i64 n] w fun e w' => e = .returned (.tuple #[.int .i64 0, .int .i64 E]) ∧ w = w' := by
  have hE' : (E == 0) = false := by simpa using hE
  have hE2 : (E != 0) = true := by simpa using hE
  have H := Lib.hid h
  clear h
  go_enter Try.func37, Try.ntmps37
  go_wp2_with fail
  refine (H.out _).mono ?_
  rintro e w1 ⟨rfl, rfl⟩
  go_wp2
  go_ret2
  exact ⟨rfl, rfl⟩

end Go.Proofs.Ytndnglaohjbapaa
